/- What the statements of this set lean on, part 5. No condition beyond those named. -/
import Derived.Test.YtjjigphfjclofaaGreatDoorLw4
import Derived.Test.YtjjigphfjclofaaGreatDoorProg
import Derived.KernelRfl
namespace Go.Proofs.YtjjigphfjclofaaGreatDoor.AW
open Go.RowKit
open Nat (reduceAdd reduceMul)
set_option maxHeartbeats 4000000
set_option maxRecDepth 100000
set_option linter.unusedSimpArgs false
set_option linter.unusedVariables false
theorem zf : xu Tryz.prog := znb (by kernel_rfl)
theorem zV : Tryz.prog.follows .mixedOrders = true := by kernel_rfl
theorem zqC : elT Tryz.prog 27 = some 3 := by kernel_rfl
theorem zrc : isR Tryz.prog 27 = some false := by kernel_rfl
theorem zoA : szT Tryz.prog 27 = 1 := by kernel_rfl
attribute [go_sem] zqC zrc zoA
theorem rInt : isR Tryz.prog 3 = some false := by kernel_rfl
theorem zgG : szT Tryz.prog 3 = 1 := by kernel_rfl
theorem zInt : zeroCells Tryz.prog 3 = some [.int .i64 0] := by kernel_rfl
theorem zrT : Zt Tryz.prog 3 = 8 := by kernel_rfl
attribute [go_sem] rInt zgG zInt zrT
theorem rStr : isR Tryz.prog 9 = some false := by kernel_rfl
theorem uStr : Tryz.prog.underlying 9 = some .string := by kernel_rfl
theorem zqQ : szT Tryz.prog 9 = 1 := by kernel_rfl
theorem zrS : Zt Tryz.prog 9 = 16 := by kernel_rfl
attribute [go_sem] rStr uStr zqQ zrS
theorem zqB : elT Tryz.prog 99 = some 9 := by kernel_rfl
theorem zqY : isR Tryz.prog 99 = some false := by kernel_rfl
theorem zpN : szT Tryz.prog 99 = 1 := by kernel_rfl
theorem zStr : zeroCells Tryz.prog 9 = some [.string ⟨#[]⟩] := by kernel_rfl
attribute [go_sem] zqB zqY zpN zStr
theorem zre : isR Tryz.prog 4 = some false := by kernel_rfl
theorem zpO : szT Tryz.prog 4 = 1 := by kernel_rfl
theorem zqO : Tryz.prog.underlying 4 = some .bool := by kernel_rfl
attribute [go_sem] zre zpO zqO
abbrev roI (l : List Int) : V := .imm 3 (row1 cI l)
attribute [go_sem] roI
abbrev ro64 (n : Int) : V := .sc (.int .i64 n)
attribute [go_sem] ro64
def Zu (k : Int) (n : Nat) : List Int := (List.range n).map fun (i : Nat) => k + i
theorem zn (k : Int) (n : Nat) : (Zu k n).length = n := by simp [Zu]
theorem zmj (k : Int) (n i : Nat) (h : i < (Zu k n).length) : (Zu k n)[i] = k + i := by simp [Zu]
theorem Yl (l : List Int) (n : Int) (hl : l.length < 9223372036854775807) : zu Tryz.prog 88 [.ro (roI l), .ro (.sc (.int .i64 n))] (fun rs st => rs = [(false, [cB (l.contains n)])]) := by
 refine zo (fn := Tryz.f88) (c := Tryz.f88.body.getD .skip) (res := [.tm 4]) (n := 17) zf (by kernel_rfl) (by rfl) (by kernel_rfl) (by rfl) (by rfl) (by simp [zp]) (fun C hpin hfull => ?_)
 simp +decide only [Tryz.f88, go_sem, reduceAdd, reduceMul]
 refine Tri.loop (ι := Nat) (fun i => i <= l.length /\ (l.take i).contains n = false) (fun i => ⟨17, [(0, roI l), (1, vI n), (4, vB false), (7, roI l), (8, vI l.length), (9, vI i)], []⟩) (fun i => l.length - i) 0 (by simp) ?_ ?_
 · refine Ent.weak ?_ ?_ ?_ ?_ <;> simp +decide [subT, subB, zk, zj, zl, St.get, look, vI, vB, vS]
 · rintro i ⟨hi, hn⟩
   refine ze zf _ ?_
   by_cases h : i < l.length
   · have e : ((i : Int) < (l.length : Int)) = True := by simp [h]
     simp +decide only [e, zq _ _ h, Int.natCast_nonneg, vI, vB, go_sem, reduceAdd, reduceMul]
     cases hq : (l[i] == n) with
     | true =>
       simp +decide only [vB, go_sem, reduceAdd, reduceMul]
       have : l.contains n = true := by simp at hq |-; exact hq ▸ List.getElem_mem h
       rw [this]
     | false =>
       simp +decide only [vB, go_sem, reduceAdd, reduceMul]
       refine ⟨i + 1, ⟨h, ?_⟩, by omega, Ent.weak ?_ ?_ ?_ ?_⟩
       · rw [List.take_succ_eq_append_getElem h, List.contains_append]
         simp at hn hq |-
         exact ⟨hn, fun e => hq e.symm⟩
       all_goals simp +decide [subT, subB, zk, zj, St.get, look, w64s (n := l.length) h (by omega), vI, vB]
   · have hil : i = l.length := by omega
     have e : ((i : Int) < (l.length : Int)) = False := by simp; omega
     rw [hil, List.take_length] at hn
     simp +decide only [e, hn, vI, vB, go_sem, reduceAdd, reduceMul]
theorem zbf (l : List Int) (k : Int) (hl : l.length < 9223372036854775807) (h0 : 0 <= k) (h1 : k + l.length < 9223372036854775807) :
   SoundAt Tryz.prog 48 (fun uf => zp 0 [.ro (.ref 2000 [] l.length), .ro (.sc (.int .i64 k))]) [(2000, .row 3 (row1 cI l))]
     (fun rs st => rs = [(false, [cI (k + l.length)])] /\ xK st.ob [(2000, .row 3 (row1 cI (Zu k l.length)))]) := by
 refine yH (fn := Tryz.f48) (c := Tryz.f48.body.getD .skip) (res := [.tm 4]) (n := 19) zf (by kernel_rfl) (by rfl) (by kernel_rfl) (by rfl) (by rfl) (by simp [zp]) (fun uf ub C hpin hpin2 hfull => ?_)
 simp +decide only [Tryz.f48, go_sem, reduceAdd, reduceMul]
 let L : Nat -> List Int := fun i => Zu k i ++ l.drop i
 have hL : ∀ i, i <= l.length -> (L i).length = l.length := fun i hi => by simp [L, Zu]; omega
 refine Tri.loop (ι := Nat) (fun i => i <= l.length) (fun i => ⟨19, [(0, .ref 2000 [] l.length), (1, vI (k + i)), (5, vI i)], [(2000, .row 3 (row1 cI (L i)))]⟩) (fun i => l.length - i) 0 (by simp) ?_ ?_
 · refine Ent.weak ?_ ?_ ?_ ?_ <;> simp +decide [subT, subB, zk, zj, St.get, look, vI, vB, L, Zu]
 · rintro i hi
   refine ze zf _ ?_
   by_cases h : i < l.length
   · have e : ((i : Int) < (l.length : Int)) = True := by simp [h]
     have e2 : i < (L i).length := by rw [hL i hi]; exact h
     simp +decide only [e, hL i hi, zq _ _ e2, Int.natCast_nonneg, vI, vB, go_sem, reduceAdd, reduceMul]
     refine ⟨h, i + 1, h, by omega, Ent.weak ?_ ?_ ?_ ?_⟩
     · have e3 : IntKind.i64.wrap (k + i + 1) = k + ((i + 1 : Nat) : Int) := by rw [w64 (by omega) (by omega)]; omega
       simp +decide [subT, St.get, look, w64s (n := l.length) h (by omega), e3, vI, vB]
     · have e4 : (row1 cI (L i)).set i [D.sc (.int .i64 (k + i))] = row1 cI (L (i + 1)) := by
         have := zcG cI (L i) i (k + i)
         simp only [cI] at this |-
         rw [this]
         congr 1
         apply List.ext_getElem
         · simp [L, Zu]; omega
         · intro j h1 h2
           simp only [L, Zu, List.getElem_set, List.getElem_append, List.length_map, List.length_range, List.getElem_map, List.getElem_range, List.getElem_drop]
           by_cases e1 : i = j
           · subst e1; simp
           · rw [if_neg e1]
             by_cases e2 : j < i
             · rw [dif_pos e2, dif_pos (by omega)]
             · rw [dif_neg e2, dif_neg (by omega)]; congr 1; omega
       simp +decide [subB, look, e4, cI]
     all_goals simp +decide [zk, zj, look, vI]
   · have hil : i = l.length := by omega
     subst hil
     have e : ((l.length : Int) < (l.length : Int)) = False := by simp
     simp +decide only [e, vI, vB, go_sem, reduceAdd, reduceMul]
     simp [L, Zu]
theorem zgg (l : List Int) (k : Int) (hl : l.length < 9223372036854775807) (h0 : 0 <= k) (h1 : k + l.length < 9223372036854775807) :
   zu Tryz.prog 50 [.ro (roI l), .ro (.sc (.int .i64 k))] (fun rs st => rs = [(false, [cI (if l = Zu k l.length then k + l.length else -1)])]) := by
 refine zo (fn := Tryz.f50) (c := Tryz.f50.body.getD .skip) (res := [.tm 4]) (n := 21) zf (by kernel_rfl) (by rfl) (by kernel_rfl) (by rfl) (by rfl) (by simp [zp]) (fun C hpin hfull => ?_)
 simp +decide only [Tryz.f50, go_sem, reduceAdd, reduceMul]
 refine Tri.loop (ι := Nat) (fun i => i <= l.length /\ l.take i = Zu k i) (fun i => ⟨21, [(0, roI l), (1, vI (k + i)), (5, vI i)], []⟩) (fun i => l.length - i) 0 (by simp [Zu]) ?_ ?_
 · refine Ent.weak ?_ ?_ ?_ ?_ <;> simp +decide [subT, subB, zk, zj, zl, St.get, look, vI, vB, vS]
 · rintro i ⟨hi, hn⟩
   refine ze zf _ ?_
   by_cases h : i < l.length
   · have e : ((i : Int) < (l.length : Int)) = True := by simp [h]
     simp +decide only [e, zq _ _ h, Int.natCast_nonneg, vI, vB, go_sem, reduceAdd, reduceMul]
     cases hq : (l[i] != k + i) with
     | true =>
       simp +decide only [vI, go_sem, reduceAdd, reduceMul]
       have : ¬ l = Zu k l.length := fun e1 => by
         have e2 : l[i] = k + i := by
           have := List.getElem_of_eq e1 h
           rw [this, zmj]
         simp [e2] at hq
       rw [if_neg this]
     | false =>
       simp +decide only [vI, go_sem, reduceAdd, reduceMul]
       refine ⟨i + 1, ⟨h, ?_⟩, by omega, Ent.weak ?_ ?_ ?_ ?_⟩
       · rw [List.take_succ_eq_append_getElem h, hn]
         simp at hq
         simp [Zu, List.range_succ, hq]
       · have e3 : IntKind.i64.wrap (k + i + 1) = k + ((i + 1 : Nat) : Int) := by rw [w64 (by omega) (by omega)]; omega
         simp +decide [subT, St.get, look, w64s (n := l.length) h (by omega), e3, vI, vB]
       all_goals simp +decide [subB, zk, zj, look, vI]
   · have hil : i = l.length := by omega
     subst hil
     have e : ((l.length : Int) < (l.length : Int)) = False := by simp
     rw [List.take_length] at hn
     simp +decide only [e, vI, vB, go_sem, reduceAdd, reduceMul]
     rw [if_pos hn]
theorem zjc (l l' : List Int) (hl : l.length < 9223372036854775807) : zu Tryz.prog 42 [.ro (roI l), .ro (roI l')] (fun rs st => rs = [(false, [cB (decide (l = l'))])]) := by
 refine zo (fn := Tryz.f42) (c := Tryz.f42.body.getD .skip) (res := [.tm 4]) (n := 26) zf (by kernel_rfl) (by rfl) (by kernel_rfl) (by rfl) (by rfl) (by simp [zp]) (fun C hpin hfull => ?_)
 by_cases hlen : l.length = l'.length
 · have e0 : ((l.length : Int) != (l'.length : Int)) = false := by simp [hlen]
   simp +decide only [Tryz.f42, e0, go_sem, reduceAdd, reduceMul]
   refine Tri.loop (ι := Nat) (fun i => i <= l.length /\ l.take i = l'.take i) (fun i => ⟨26, [(0, roI l), (1, roI l'), (5, vI i)], []⟩) (fun i => l.length - i) 0 (by simp) ?_ ?_
   · refine Ent.weak ?_ ?_ ?_ ?_ <;> simp +decide [subT, subB, zk, zj, zl, St.get, look, vI, vB, vS]
   · rintro i ⟨hi, hn⟩
     refine ze zf _ ?_
     by_cases h : i < l.length
     · have e : ((i : Int) < (l.length : Int)) = True := by simp [h]
       have h' : i < l'.length := by omega
       have e' : ((i : Int) < (l'.length : Int)) = True := by simp [h']
       simp +decide only [e, vI, vB, go_sem, reduceAdd, reduceMul]
       refine Tri.draw zf zV (by kernel_rfl) ?_
       simp +decide only [e, e', zq _ _ h, zq _ _ h', Int.natCast_nonneg, vI, vB, go_sem, reduceAdd, reduceMul]
       cases hq : (l[i] != l'[i]) with
       | true =>
         simp +decide only [vI, vB, go_sem, reduceAdd, reduceMul]
         have : ¬ l = l' := fun e1 => by subst e1; simp at hq
         simp [this]
       | false =>
         simp +decide only [vI, go_sem, reduceAdd, reduceMul]
         refine ⟨i + 1, ⟨h, ?_⟩, by omega, Ent.weak ?_ ?_ ?_ ?_⟩
         · rw [List.take_succ_eq_append_getElem h, List.take_succ_eq_append_getElem h', hn]
           simp at hq; rw [hq]
         all_goals simp +decide [subT, subB, zk, zj, St.get, look, w64s (n := l.length) h (by omega), vI, vB]
     · have hil : i = l.length := by omega
       subst hil
       have e : ((l.length : Int) < (l.length : Int)) = False := by simp
       simp +decide only [e, vI, vB, go_sem, reduceAdd, reduceMul]
       rw [List.take_length, hlen, List.take_length] at hn
       simp [hn]
 · have e0 : ((l.length : Int) != (l'.length : Int)) = true := by simp; omega
   have e1 : ¬ l = l' := fun e => hlen (by rw [e])
   simp +decide only [Tryz.f42, e0, e1, go_sem, reduceAdd, reduceMul]
theorem znK (n lo hi : Int) : zu Tryz.prog 40 [.ro (.sc (.int .i64 n)), .ro (.sc (.int .i64 lo)), .ro (.sc (.int .i64 hi))] (fun rs st => rs = [(false, [cB (decide (lo <= n) && decide (n <= hi))])]) := by
 refine zo (fn := Tryz.f40) (c := Tryz.f40.body.getD .skip) (res := [.tm 6]) (n := 15) zf (by kernel_rfl) (by rfl) (by kernel_rfl) (by rfl) (by rfl) (by simp [zp]) (fun C hpin hfull => ?_)
 simp +decide only [Tryz.f40, go_sem, reduceAdd, reduceMul]
 by_cases h : lo <= n <;> simp [h]
theorem ziG (n lo hi : Int) : zu Tryz.prog 35 [.ro (.sc (.int .i64 n)), .ro (.sc (.int .i64 lo)), .ro (.sc (.int .i64 hi))] (fun rs st => rs = [(false, [cB (decide (lo <= n) && decide (n <= hi))])]) := by
 refine zo (fn := Tryz.f35) (c := Tryz.f35.body.getD .skip) (res := [.tm 6]) (n := 15) zf (by kernel_rfl) (by rfl) (by kernel_rfl) (by rfl) (by rfl) (by simp [zp]) (fun C hpin hfull => ?_)
 simp +decide only [Tryz.f35, go_sem, reduceAdd, reduceMul]
 by_cases h : lo <= n <;> simp [h]
theorem zgF (l : List Int) (x : Int) (hl : l.length < 4611686018427387904) (h0 : -4611686018427387904 < x) (h1 : x < 4611686018427387904) : zu Tryz.prog 162 [.ro (roI l), .ro (.sc (.int .i64 x))] (fun rs st => rs = [(false, [cI (if x - l.length < 0 then -1 else x - l.length)])]) := by
 refine zo (fn := Tryz.f162) (c := Tryz.f162.body.getD .skip) (res := [.tm 4]) (n := 12) zf (by kernel_rfl) (by rfl) (by kernel_rfl) (by rfl) (by rfl) (by simp [zp]) (fun C hpin hfull => ?_)
 have e : IntKind.i64.wrap (x - (l.length : Int)) = x - l.length := w64 (by omega) (by omega)
 simp +decide only [Tryz.f162, e, go_sem, reduceAdd, reduceMul]
 by_cases h : x - (l.length : Int) < 0
 · have e2 : (x - (l.length : Int) < 0) = True := by simp [h]
   simp +decide only [e2, go_sem, reduceAdd, reduceMul]
 · have e2 : (x - (l.length : Int) < 0) = False := by simp; omega
   simp +decide only [e2, go_sem, reduceAdd, reduceMul]
theorem zgC (l : List Int) (hl : l.length <= 35184372088832) : zu Tryz.prog 173 [.ro (roI l)] (fun rs st => rs = [(false, [.row false 3 (row1 cI l)])]) := by
 refine zo (fn := Tryz.f173) (c := Tryz.f173.body.getD .skip) (res := [.tm 2]) (n := 22) zf (by kernel_rfl) (by rfl) (by kernel_rfl) (by rfl) (by rfl) (by simp [zp]) (fun C hpin hfull => ?_)
 have e1 : (8 : Nat) * (l.length : Int) <= 281474976710656 := by omega
 simp +decide only [Tryz.f173, hpin, go_sem, reduceAdd, reduceMul]
 refine ⟨by omega, by omega, by omega, ?_⟩
 let L : Nat -> List Int := fun i => l.take i ++ List.replicate (l.length - i) 0
 have hL : ∀ i, i <= l.length -> (L i).length = l.length := fun i hi => by simp [L]; omega
 refine Tri.loop (ι := Nat) (fun i => i <= l.length) (fun i => ⟨22, [(0, roI l), (2, .ref 2 [] 0), (3, .ref 3 [] l.length), (4, vI i)], [(3, .row 3 (row1 cI (L i))), (2, .row 3 [])]⟩) (fun i => l.length - i) 0 (by simp) ?_ ?_
 · refine Ent.weak ?_ ?_ ?_ ?_ <;> simp +decide [subT, subB, zk, zj, St.get, look, vI, vB, L, row1, cI]
 · rintro i hi
   refine ze zf _ ?_
   by_cases h : i < l.length
   · have e : ((i : Int) < (l.length : Int)) = True := by simp [h]
     have e2 : i < (L i).length := by rw [hL i hi]; exact h
     simp +decide only [e, h, hL i hi, zq _ _ h, zq _ _ e2, Int.natCast_nonneg, vI, vB, go_sem, reduceAdd, reduceMul]
     refine ⟨i + 1, h, by omega, Ent.weak ?_ ?_ ?_ ?_⟩
     · simp +decide [subT, St.get, look, w64s (n := l.length) h (by omega), vI, vB]
     · have e4 : (row1 cI (L i)).set i [D.sc (.int .i64 l[i])] = row1 cI (L (i + 1)) := by
         have := zcG cI (L i) i l[i]
         simp only [cI] at this |-
         rw [this]
         congr 1
         apply List.ext_getElem
         · simp [L]; omega
         · intro j h1 h2
           simp only [L, List.getElem_set, List.getElem_append, List.length_take, List.getElem_take, List.getElem_replicate]
           by_cases e1 : i = j
           · subst e1; simp; omega
           · rw [if_neg e1]
             by_cases e2 : j < i
             · rw [dif_pos (by omega), dif_pos (by omega)]
             · rw [dif_neg (by omega), dif_neg (by omega)]
       simp +decide [subB, look, e4, cI]
     all_goals simp +decide [zk, zj, look, vI]
   · have hil : i = l.length := by omega
     subst hil
     have e : ((l.length : Int) < (l.length : Int)) = False := by simp
     simp +decide only [e, hL l.length (Nat.le_refl _), hpin, vI, vB, go_sem, reduceAdd, reduceMul]
     simp [L]
theorem zlx (l : List Int) (left : Int) (h0 : 0 <= left) (h1 : left < 1152921504606846976) (hl : l.length < 1152921504606846976) : zu Tryz.prog 162 [.ro (roI l), .ro (.sc (.int .i64 left))] (fun rs st => rs = [(false, [cI (sub left l.length)])]) := by
 have := zgF l left (by omega) (by omega) (by omega)
 exact this
theorem zlt (l : List Int) (hl : l.length <= 1048576) : zu Tryz.prog 173 [.ro (roI l)] (fun rs st => rs = [(false, [.row false 3 (row1 cI l)])]) := zgC l (by omega)
theorem zhK (l : List Int) (hl : l.length <= 1048576) : zu Tryz.prog 42 [.ro (roI l), .ro (roI l)] (fun rs st => rs = [(false, [cB true])]) := by
 have := zjc l l (by omega)
 simpa using this
theorem zqy : fo Tryz.prog 139 0 = some 0 := by kernel_rfl
theorem zqx : fo Tryz.prog 139 1 = some 1 := by kernel_rfl
theorem zqw : fo Tryz.prog 139 2 = some 2 := by kernel_rfl
theorem zqv : fo Tryz.prog 139 3 = some 3 := by kernel_rfl
theorem zqu : fo Tryz.prog 139 4 = some 4 := by kernel_rfl
theorem zqt : fo Tryz.prog 139 5 = some 5 := by kernel_rfl
theorem zqs : fo Tryz.prog 139 6 = some 6 := by kernel_rfl
theorem zrd : isR Tryz.prog 139 = some true := by kernel_rfl
theorem zqV : szT Tryz.prog 139 = 7 := by kernel_rfl
theorem zqM : zeroCells Tryz.prog 139 = some [.int .i64 0, .int .i64 0, .int .i64 0, .int .i64 0, .int .i64 0, .string ⟨#[]⟩, .slice none 0 0] := by kernel_rfl
theorem zrV : Zt Tryz.prog 139 = 80 := by kernel_rfl
theorem zqg : xy Tryz.prog 139 = some [(0, 1), (1, 1), (2, 1), (3, 1), (4, 1), (5, 1), (6, 1)] := by kernel_rfl
attribute [go_sem] zqy zqx zqw zqv zqu zqt zqs zrd zqV zqM zrV zqg
theorem zrO : elT Tryz.prog 28 = some 139 := by kernel_rfl
theorem zqa : isR Tryz.prog 28 = some false := by kernel_rfl
theorem zpU : szT Tryz.prog 28 = 1 := by kernel_rfl
attribute [go_sem] zrO zqa zpU
structure InsD where
 op : Int
 a : Int
 b : Int
 c : Int
 num : Int
 name : ByteArray
 args : List Int
def insC (sh : Bool) (x : InsD) : List D := [cI x.op, cI x.a, cI x.b, cI x.c, cI x.num, cS x.name, .row sh 3 (row1 cI x.args)]
def insW (x : InsD) : V := .agg [.sc (.int .i64 x.op), .sc (.int .i64 x.a), .sc (.int .i64 x.b), .sc (.int .i64 x.c), .sc (.int .i64 x.num), .sc (.string x.name), roI x.args]
def zgf (x : InsD) : Nat := x.name.size + x.args.length
theorem zmu (sh : Bool) : shF (insC sh) = insC true := by funext x; simp [shF, insC, shL, shD, cI, cS, cB, yR, Zi]
theorem zdT (x : InsD) : Zr (insC false x) = true := by simp [insC, Zr, noSh, cI, cS, cB, Zc]
attribute [go_sem] zmu zdT
theorem zhB (l : List InsD) : xo (rows (insC false) l) = true := xb zdT l
attribute [go_sem] zhB
theorem zpu : fo Tryz.prog 30 0 = some 0 := by kernel_rfl
theorem zpt : fo Tryz.prog 30 1 = some 1 := by kernel_rfl
theorem zps : fo Tryz.prog 30 2 = some 2 := by kernel_rfl
theorem zpr : fo Tryz.prog 30 3 = some 3 := by kernel_rfl
theorem zqd : isR Tryz.prog 30 = some true := by kernel_rfl
theorem zpX : szT Tryz.prog 30 = 4 := by kernel_rfl
theorem zpL : zeroCells Tryz.prog 30 = some [.string ⟨#[]⟩, .int .i64 0, .slice none 0 0, .slice none 0 0] := by kernel_rfl
theorem zqJ : Zt Tryz.prog 30 = 72 := by kernel_rfl
theorem zoV : xy Tryz.prog 30 = some [(0, 1), (1, 1), (2, 1), (3, 1)] := by kernel_rfl
attribute [go_sem] zpu zpt zps zpr zqd zpX zpL zqJ zoV
theorem zqF : elT Tryz.prog 43 = some 30 := by kernel_rfl
theorem zoP : isR Tryz.prog 43 = some false := by kernel_rfl
theorem zoG : szT Tryz.prog 43 = 1 := by kernel_rfl
attribute [go_sem] zqF zoP zoG
structure CodeD where
 name : ByteArray
 params : Int
 locals : List Int
 words : List InsD
def zlg (sh : Bool) (x : CodeD) : List D := [cS x.name, cI x.params, .row sh 3 (row1 cI x.locals), .row sh 139 (rows (insC sh) x.words)]
theorem znZ (sh : Bool) : shF (zlg sh) = zlg true := by funext x; simp [shF, zlg, shL, shD, cI, cS, cB, yR, Zi, zmu]
theorem zfl (x : CodeD) : Zr (zlg false x) = true := by simp [zlg, Zr, noSh, cI, cS, cB, Zc, xb zdT]
attribute [go_sem] znZ zfl
theorem zgq (l : List CodeD) : xo (rows (zlg false) l) = true := xb zfl l
attribute [go_sem] zgq
theorem zpq : fo Tryz.prog 83 0 = some 0 := by kernel_rfl
theorem zpp : fo Tryz.prog 83 1 = some 1 := by kernel_rfl
theorem zpo : fo Tryz.prog 83 2 = some 2 := by kernel_rfl
theorem zpn : fo Tryz.prog 83 3 = some 3 := by kernel_rfl
theorem zqc : isR Tryz.prog 83 = some true := by kernel_rfl
theorem zpW : szT Tryz.prog 83 = 4 := by kernel_rfl
theorem zpK : zeroCells Tryz.prog 83 = some [.int .i64 0, .int .i64 0, .string ⟨#[]⟩, .slice none 0 0] := by kernel_rfl
theorem zqI : Zt Tryz.prog 83 = 56 := by kernel_rfl
theorem zoU : xy Tryz.prog 83 = some [(0, 1), (1, 1), (2, 1), (3, 1)] := by kernel_rfl
attribute [go_sem] zpq zpp zpo zpn zqc zpW zpK zqI zoU
theorem zqE : elT Tryz.prog 33 = some 83 := by kernel_rfl
theorem zoO : isR Tryz.prog 33 = some false := by kernel_rfl
theorem zoF : szT Tryz.prog 33 = 1 := by kernel_rfl
attribute [go_sem] zqE zoO zoF
theorem zpm : fo Tryz.prog 126 0 = some 0 := by kernel_rfl
theorem zpl : fo Tryz.prog 126 1 = some 1 := by kernel_rfl
theorem zpk : fo Tryz.prog 126 2 = some 2 := by kernel_rfl
theorem zpj : fo Tryz.prog 126 3 = some 3 := by kernel_rfl
theorem zqb : isR Tryz.prog 126 = some true := by kernel_rfl
theorem zpV : szT Tryz.prog 126 = 4 := by kernel_rfl
attribute [go_sem] zpm zpl zpk zpj zqb zpV
theorem zqD : elT Tryz.prog 22 = some 126 := by kernel_rfl
theorem zoN : isR Tryz.prog 22 = some false := by kernel_rfl
theorem zoE : szT Tryz.prog 22 = 1 := by kernel_rfl
attribute [go_sem] zqD zoN zoE
structure NodeD where
 kind : Int
 num : Int
 name : ByteArray
 kids : List Int
def zg (sh : Bool) (x : NodeD) : List D := [cI x.kind, cI x.num, cS x.name, .row sh 3 (row1 cI x.kids)]
def zt (x : NodeD) : V := .agg [.sc (.int .i64 x.kind), .sc (.int .i64 x.num), .sc (.string x.name), roI x.kids]
def zB (x : NodeD) : Nat := x.name.size + x.kids.length
def Xw (x : NodeD) : Prop := x.name.size < 1152921504606846976 /\ x.kids.length < 1152921504606846976
theorem zjH (sh : Bool) : shF (zg sh) = zg true := by funext x; simp [shF, zg, shL, shD, cI, cS, cB, yR, Zi]
theorem zbN (x : NodeD) : Zr (zg false x) = true := by simp [zg, Zr, noSh, cI, cS, cB, Zc]
attribute [go_sem] zjH zbN
theorem zfS (l : List NodeD) : xo (rows (zg false) l) = true := xb zbN l
attribute [go_sem] zfS
def zbM (x : NodeD) : List D := [cI x.kind, cI x.num, cS x.name, .row true 3 (row1 cI x.kids)]
def ziB (x : NodeD) : V := .agg [.sc (.int .i64 x.kind), .sc (.int .i64 x.num), .sc (.string x.name), roI x.kids]
theorem zjG : shF zbM = zbM := by funext x; simp [shF, zbM, shL, shD, cI, cS, cB, yR, Zi]
attribute [go_sem] zjG
theorem znT : fo Tryz.prog 107 0 = some 0 := by kernel_rfl
theorem znS : fo Tryz.prog 107 1 = some 1 := by kernel_rfl
theorem zoR : isR Tryz.prog 107 = some true := by kernel_rfl
theorem zoI : szT Tryz.prog 107 = 2 := by kernel_rfl
theorem zox : zeroCells Tryz.prog 107 = some [.string ⟨#[]⟩, .int .i64 0] := by kernel_rfl
theorem zpE : Zt Tryz.prog 107 = 24 := by kernel_rfl
theorem zno : xy Tryz.prog 107 = some [(0, 1), (1, 1)] := by kernel_rfl
attribute [go_sem] znT znS zoR zoI zox zpE zno
theorem zpz : elT Tryz.prog 102 = some 107 := by kernel_rfl
theorem znk : isR Tryz.prog 102 = some false := by kernel_rfl
theorem znf : szT Tryz.prog 102 = 1 := by kernel_rfl
attribute [go_sem] zpz znk znf
theorem znR : fo Tryz.prog 188 0 = some 0 := by kernel_rfl
theorem znQ : fo Tryz.prog 188 1 = some 1 := by kernel_rfl
theorem zoQ : isR Tryz.prog 188 = some true := by kernel_rfl
theorem zoH : szT Tryz.prog 188 = 2 := by kernel_rfl
attribute [go_sem] znR znQ zoQ zoH
theorem zpy : elT Tryz.prog 128 = some 188 := by kernel_rfl
theorem znj : isR Tryz.prog 128 = some false := by kernel_rfl
theorem zne : szT Tryz.prog 128 = 1 := by kernel_rfl
attribute [go_sem] zpy znj zne
structure ParamD where
 name : ByteArray
 ty : Int
def zr (sh : Bool) (x : ParamD) : List D := [cS x.name, cI x.ty]
def zjE (x : ParamD) : V := .agg [.sc (.string x.name), .sc (.int .i64 x.ty)]
def zH (x : ParamD) : Nat := x.name.size
def ZI (x : ParamD) : Prop := x.name.size < 1152921504606846976
theorem zhh (sh : Bool) : shF (zr sh) = zr true := by funext x; simp [shF, zr, shL, shD, cI, cS, cB, yR, Zi]
theorem zav (x : ParamD) : Zr (zr false x) = true := by simp [zr, Zr, noSh, cI, cS, cB, Zc]
attribute [go_sem] zhh zav
theorem zeC (l : List ParamD) : xo (rows (zr false) l) = true := xb zav l
attribute [go_sem] zeC
def Yu (x : ParamD) : List D := [cS x.name, cI x.ty]
def zdv (x : ParamD) : V := .agg [.sc (.string x.name), .sc (.int .i64 x.ty)]
theorem zhg : shF Yu = Yu := by funext x; simp [shF, Yu, shL, shD, cI, cS, cB, yR, Zi]
attribute [go_sem] zhg
theorem zrJ : fo Tryz.prog 104 0 = some 0 := by kernel_rfl
theorem zrI : fo Tryz.prog 104 1 = some 1 := by kernel_rfl
theorem zrH : fo Tryz.prog 104 2 = some 2 := by kernel_rfl
theorem zrG : fo Tryz.prog 104 3 = some 3 := by kernel_rfl
theorem zrF : fo Tryz.prog 104 4 = some 4 := by kernel_rfl
theorem rFnC : isR Tryz.prog 104 = some true := by kernel_rfl
theorem sFnC : szT Tryz.prog 104 = 5 := by kernel_rfl
theorem zFnC : zeroCells Tryz.prog 104 = some [.string ⟨#[]⟩, .slice none 0 0, .int .i64 0, .int .i64 0, .int .i64 0] := by kernel_rfl
theorem bFnC : Zt Tryz.prog 104 = 64 := by kernel_rfl
theorem zrj : xy Tryz.prog 104 = some [(0, 1), (1, 1), (2, 1), (3, 1), (4, 1)] := by kernel_rfl
attribute [go_sem] zrJ zrI zrH zrG zrF rFnC sFnC zFnC bFnC zrj
theorem eFnC : elT Tryz.prog 34 = some 104 := by kernel_rfl
theorem zrb : isR Tryz.prog 34 = some false := by kernel_rfl
theorem zqU : szT Tryz.prog 34 = 1 := by kernel_rfl
attribute [go_sem] eFnC zrb zqU
theorem zrE : fo Tryz.prog 130 0 = some 0 := by kernel_rfl
theorem zrD : fo Tryz.prog 130 1 = some 1 := by kernel_rfl
theorem zrC : fo Tryz.prog 130 2 = some 2 := by kernel_rfl
theorem zrB : fo Tryz.prog 130 3 = some 3 := by kernel_rfl
theorem zrA : fo Tryz.prog 130 4 = some 4 := by kernel_rfl
theorem rFnL : isR Tryz.prog 130 = some true := by kernel_rfl
theorem sFnL : szT Tryz.prog 130 = 5 := by kernel_rfl
attribute [go_sem] zrE zrD zrC zrB zrA rFnL sFnL
theorem eFnL : elT Tryz.prog 23 = some 130 := by kernel_rfl
theorem zra : isR Tryz.prog 23 = some false := by kernel_rfl
theorem zqT : szT Tryz.prog 23 = 1 := by kernel_rfl
attribute [go_sem] eFnL zra zqT
structure FnD where
 name : ByteArray
 params : List ParamD
 res : Int
 body : Int
 ret : Int
def fnC (sh : Bool) (x : FnD) : List D := [cS x.name, .row sh 107 (rows (zr sh) x.params), cI x.res, cI x.body, cI x.ret]
def fnW (x : FnD) : V := .agg [.sc (.string x.name), .imm 107 (rows (zr true) x.params), .sc (.int .i64 x.res), .sc (.int .i64 x.body), .sc (.int .i64 x.ret)]
def yb (x : FnD) : Nat := x.name.size + (x.params.length + sumN zH x.params)
def zeb (x : FnD) : Prop := x.name.size < 1152921504606846976 /\ x.params.length < 1152921504606846976 /\ (∀ y ∈ x.params, ZI y)
theorem zov (sh : Bool) : shF (fnC sh) = fnC true := by funext x; simp [shF, fnC, shL, shD, cI, cS, cB, yR, Zi, zhh]
theorem zgj (x : FnD) : Zr (fnC false x) = true := by simp [fnC, Zr, noSh, cI, cS, cB, Zc, xb zav]
attribute [go_sem] zov zgj
theorem ziT (l : List FnD) : xo (rows (fnC false) l) = true := xb zgj l
attribute [go_sem] ziT
def fnL (x : FnD) : List D := [cS x.name, .row true 188 (rows Yu x.params), cI x.res, cI x.body, cI x.ret]
def fnV (x : FnD) : V := .agg [.sc (.string x.name), .imm 188 (rows Yu x.params), .sc (.int .i64 x.res), .sc (.int .i64 x.body), .sc (.int .i64 x.ret)]
theorem zou : shF fnL = fnL := by funext x; simp [shF, fnL, shL, shD, cI, cS, cB, yR, Zi, zhg]
attribute [go_sem] zou
theorem zla : fo Tryz.prog 36 0 = some 0 := by kernel_rfl
theorem zkZ : fo Tryz.prog 36 1 = some 1 := by kernel_rfl
theorem zlQ : isR Tryz.prog 36 = some true := by kernel_rfl
theorem zlJ : szT Tryz.prog 36 = 2 := by kernel_rfl
theorem zll : zeroCells Tryz.prog 36 = some [.slice none 0 0, .slice none 0 0] := by kernel_rfl
theorem zmL : Zt Tryz.prog 36 = 48 := by kernel_rfl
theorem zkB : xy Tryz.prog 36 = some [(0, 1), (1, 1)] := by kernel_rfl
attribute [go_sem] zla zkZ zlQ zlJ zll zmL zkB
theorem zkY : fo Tryz.prog 25 0 = some 0 := by kernel_rfl
theorem zkX : fo Tryz.prog 25 1 = some 1 := by kernel_rfl
theorem zlP : isR Tryz.prog 25 = some true := by kernel_rfl
theorem zlI : szT Tryz.prog 25 = 2 := by kernel_rfl
attribute [go_sem] zkY zkX zlP zlI
structure ProgramD where
 nodes : List NodeD
 fns : List FnD
def za (sh : Bool) (x : ProgramD) : List D := [.row sh 83 (rows (zg sh) x.nodes), .row sh 104 (rows (fnC sh) x.fns)]
def zb (x : ProgramD) : V := .agg [.imm 83 (rows (zg true) x.nodes), .imm 104 (rows (fnC true) x.fns)]
def zE (x : ProgramD) : Nat := (x.nodes.length + sumN zB x.nodes) + (x.fns.length + sumN yb x.fns)
def Yg (x : ProgramD) : Prop := x.nodes.length < 1152921504606846976 /\ (∀ y ∈ x.nodes, Xw y) /\ x.fns.length < 1152921504606846976 /\ (∀ y ∈ x.fns, zeb y)
theorem zit (sh : Bool) : shF (za sh) = za true := by funext x; simp [shF, za, shL, shD, cI, cS, cB, yR, Zi, zjH, zov]
theorem zaV (x : ProgramD) : Zr (za false x) = true := by simp [za, Zr, noSh, cI, cS, cB, Zc, xb zbN, xb zgj]
attribute [go_sem] zit zaV
theorem zcp (l : List ProgramD) : xo (rows (za false) l) = true := xb zaV l
attribute [go_sem] zcp
def YN (x : ProgramD) : List D := [.row true 126 (rows zbM x.nodes), .row true 130 (rows fnL x.fns)]
def zA (x : ProgramD) : V := .agg [.imm 126 (rows zbM x.nodes), .imm 130 (rows fnL x.fns)]
theorem zdq : shF YN = YN := by funext x; simp [shF, YN, shL, shD, cI, cS, cB, yR, Zi, zjG, zou]
attribute [go_sem] zdq
theorem zqn : fo Tryz.prog 96 0 = some 0 := by kernel_rfl
theorem zqm : fo Tryz.prog 96 1 = some 1 := by kernel_rfl
theorem zql : fo Tryz.prog 96 2 = some 2 := by kernel_rfl
theorem zqX : isR Tryz.prog 96 = some true := by kernel_rfl
theorem zqR : szT Tryz.prog 96 = 3 := by kernel_rfl
theorem zqK : zeroCells Tryz.prog 96 = some [.string ⟨#[]⟩, .int .i64 0, .int .i64 0] := by kernel_rfl
theorem zrU : Zt Tryz.prog 96 = 32 := by kernel_rfl
theorem zqe : xy Tryz.prog 96 = some [(0, 1), (1, 1), (2, 1)] := by kernel_rfl
attribute [go_sem] zqn zqm zql zqX zqR zqK zrU zqe
theorem zrN : elT Tryz.prog 74 = some 96 := by kernel_rfl
theorem zpZ : isR Tryz.prog 74 = some false := by kernel_rfl
theorem zpT : szT Tryz.prog 74 = 1 := by kernel_rfl
attribute [go_sem] zrN zpZ zpT
structure VarD where
 name : ByteArray
 ty : Int
 node : Int
def varC (sh : Bool) (x : VarD) : List D := [cS x.name, cI x.ty, cI x.node]
theorem zoz (sh : Bool) : shF (varC sh) = varC true := by funext x; simp [shF, varC, shL, shD, cI, cS, cB, yR, Zi]
theorem zgx (x : VarD) : Zr (varC false x) = true := by simp [varC, Zr, noSh, cI, cS, cB, Zc]
attribute [go_sem] zoz zgx
theorem zgw (l : List VarD) : xo (rows (varC false) l) = true := xb zgx l
attribute [go_sem] zgw
theorem zmz : fo Tryz.prog 166 0 = some 0 := by kernel_rfl
theorem zmy : fo Tryz.prog 166 1 = some 1 := by kernel_rfl
theorem znl : isR Tryz.prog 166 = some true := by kernel_rfl
theorem zng : szT Tryz.prog 166 = 2 := by kernel_rfl
theorem zmS : zeroCells Tryz.prog 166 = some [.string ⟨#[]⟩, .int .i64 0] := by kernel_rfl
theorem zof : Zt Tryz.prog 166 = 24 := by kernel_rfl
theorem zlS : xy Tryz.prog 166 = some [(0, 1), (1, 1)] := by kernel_rfl
attribute [go_sem] zmz zmy znl zng zmS zof zlS
theorem znX : elT Tryz.prog 113 = some 166 := by kernel_rfl
theorem zlO : isR Tryz.prog 113 = some false := by kernel_rfl
theorem zlH : szT Tryz.prog 113 = 1 := by kernel_rfl
attribute [go_sem] znX zlO zlH
structure EffectD where
 name : ByteArray
 bits : Int
def zbT (sh : Bool) (x : EffectD) : List D := [cS x.name, cI x.bits]
theorem zld (sh : Bool) : shF (zbT sh) = zbT true := by funext x; simp [shF, zbT, shL, shD, cI, cS, cB, yR, Zi]
theorem zcm (x : EffectD) : Zr (zbT false x) = true := by simp [zbT, Zr, noSh, cI, cS, cB, Zc]
attribute [go_sem] zld zcm
theorem zej (l : List EffectD) : xo (rows (zbT false) l) = true := xb zcm l
attribute [go_sem] zej
theorem zjd (x : InsD) (h : zgf x <= 1048576) : zu Tryz.prog 125 [.ro (insW x), .ro (insW x)] (fun rs st => rs = [(false, [cB true])]) := by
 unfold zgf at h
 refine zo (fn := Tryz.f125) (c := Tryz.f125.body.getD .skip) (res := [.tm 4]) (n := 41) zf (by kernel_rfl) (by rfl) (by kernel_rfl) (by rfl) (by rfl) (by simp [zp]) (fun C hpin hfull => ?_)
 simp +decide only [Tryz.f125, insW, bne_self_eq_false, hpin, go_sem, reduceAdd, reduceMul]
 refine zd (zhK x.args (by omega)) hpin ?_
 simp +decide only [bne_self_eq_false, hpin, go_sem, reduceAdd, reduceMul]
theorem zow (l : List InsD) (h : l.length + sumN zgf l <= 1048576) : zu Tryz.prog 43 [.ro (.imm 139 (rows (insC true) l)), .ro (.imm 139 (rows (insC true) l))] (fun rs st => rs = [(false, [cB true])]) := by
 refine zo (fn := Tryz.f43) (c := Tryz.f43.body.getD .skip) (res := [.tm 4]) (n := 27) zf (by kernel_rfl) (by rfl) (by kernel_rfl) (by rfl) (by rfl) (by simp [zp]) (fun C hpin hfull => ?_)
 simp +decide only [Tryz.f43, bne_self_eq_false, hpin, go_sem, reduceAdd, reduceMul]
 refine Tri.loop (ι := Nat) (fun i => i <= l.length) (fun i => ⟨27, [(0, .imm 139 (rows (insC true) l)), (1, .imm 139 (rows (insC true) l)), (5, vI i)], []⟩) (fun i => l.length - i) 0 (by simp) ?_ ?_
 · refine Ent.weak ?_ ?_ ?_ ?_ <;> simp +decide [subT, subB, zk, zj, St.get, look, vI, vB]
 · rintro i hi
   refine ze zf _ ?_
   by_cases h' : i < l.length
   · have e : ((i : Int) < (l.length : Int)) = True := by simp [h']
     have hc := ZB zgf h'
     simp +decide only [e, vI, hpin, go_sem, reduceAdd, reduceMul]
     refine Tri.sched zf [(0, true), (1, true), (4, true), (5, true), (2, true), (6, true), (3, true), (7, true), (8, false), (9, false)] zV (by kernel_rfl) (fun C2 hC2 => ?_)
     have hp2 := zY hC2 hpin
     simp +decide only [e, h', zh _ _ h', Int.natCast_nonneg, vI, insC, hp2, go_sem, reduceAdd, reduceMul]
     refine zd (zjd l[i] (by omega)) hp2 ?_
     simp +decide only [insW, hp2, go_sem, reduceAdd, reduceMul]
     refine ⟨i + 1, h', by omega, Ent.weak ?_ ?_ ?_ ?_⟩ <;> simp +decide [subT, subB, zk, zj, St.get, look, w64s (n := l.length) h' (by omega), vI, vB]
   · have hil : i = l.length := by omega
     subst hil
     have e : ((l.length : Int) < (l.length : Int)) = False := by simp
     simp +decide only [e, vI, hpin, go_sem, reduceAdd, reduceMul]
theorem zgE (x : NodeD) (left : Int) (h0 : 0 <= left) (h1 : left < 1152921504606846976) (hs : Xw x) : zu Tryz.prog 103 [.ro (ziB x), .ro (.sc (.int .i64 left))] (fun rs st => rs = [(false, [cI (sub left (zB x))])]) := by
 refine zo (fn := Tryz.f103) (c := Tryz.f103.body.getD .skip) (res := [.tm 4]) (n := 19) zf (by kernel_rfl) (by rfl) (by kernel_rfl) (by rfl) (by rfl) (by simp [zp]) (fun C hpin hfull => ?_)
 obtain ⟨s0, s1⟩ := hs
 have w0 : IntKind.i64.wrap (left - (x.name.size : Int)) = left - x.name.size := w64 (by omega) (by omega)
 simp +decide only [Tryz.f103, ziB, w0, hpin, go_sem, reduceAdd, reduceMul]
 by_cases h0_ : left - ((x.name.size : Nat) : Int) < 0
 · have e : sub left (zB x) = -1 := yK (by unfold zB; omega)
   rw [e]
   simp +decide only [h0_, hpin, go_sem, reduceAdd, reduceMul]
 have n0 : (left - ((x.name.size : Nat) : Int) < 0) = False := by simpa using h0_
 simp +decide only [n0, hpin, go_sem, reduceAdd, reduceMul]
 refine zd (zlx x.kids (left - ((x.name.size : Nat) : Int)) (by omega) (by omega) s1) hpin ?_
 by_cases h1_ : left - ((x.name.size : Nat) : Int) - ((x.kids.length : Nat) : Int) < 0
 · have e : sub left (zB x) = -1 := yK (by unfold zB; omega)
   rw [e]
   rw [yK h1_]
   simp +decide only [h1_, hpin, go_sem, reduceAdd, reduceMul]
 rw [xJ h1_]
 have n1 : (left - ((x.name.size : Nat) : Int) - ((x.kids.length : Nat) : Int) < 0) = False := by simpa using h1_
 have e : sub left (zB x) = left - ((x.name.size : Nat) : Int) - ((x.kids.length : Nat) : Int) := by rw [xJ (by unfold zB; omega)]; unfold zB; omega
 rw [e]
 simp +decide only [n1, hpin, go_sem, reduceAdd, reduceMul]
theorem zfE (l : List NodeD) (left : Int) (h0 : 0 <= left) (h1 : left < 1152921504606846976) (hl : l.length < 1152921504606846976) (hs : ∀ y ∈ l, Xw y) : zu Tryz.prog 32 [.ro (.imm 126 (rows zbM l)), .ro (.sc (.int .i64 left))] (fun rs st => rs = [(false, [cI (sub left (l.length + sumN zB l))])]) := by
 refine zo (fn := Tryz.f32) (c := Tryz.f32.body.getD .skip) (res := [.tm 4]) (n := 27) zf (by kernel_rfl) (by rfl) (by kernel_rfl) (by rfl) (by rfl) (by simp [zp]) (fun C hpin hfull => ?_)
 have w0 : IntKind.i64.wrap (left - (l.length : Int)) = left - l.length := w64 (by omega) (by omega)
 simp +decide only [Tryz.f32, w0, hpin, go_sem, reduceAdd, reduceMul]
 by_cases hn : left - (l.length : Int) < 0
 · have e : sub left (l.length + sumN zB l) = -1 := yK (by omega)
   rw [e]
   simp +decide only [hn, hpin, go_sem, reduceAdd, reduceMul]
 have nn : (left - (l.length : Int) < 0) = False := by simpa using hn
 simp +decide only [nn, hpin, go_sem, reduceAdd, reduceMul]
 refine Tri.loop (ι := Nat) (fun i => i <= l.length /\ 0 <= left - l.length - (sumN zB (l.take i) : Nat)) (fun i => ⟨27, [(0, .imm 126 (rows zbM l)), (1, vI (left - l.length - (sumN zB (l.take i) : Nat))), (5, vI i)], []⟩) (fun i => l.length - i) 0 ⟨Nat.zero_le _, by rw [zfF]; omega⟩ ?_ ?_
 · refine Ent.weak ?_ ?_ ?_ ?_ <;> simp +decide [subT, subB, zk, zj, zl, St.get, look, vI, vB, vS, sumN]
 · rintro i ⟨hi, hp⟩
   refine ze zf _ ?_
   by_cases h : i < l.length
   · have e : ((i : Int) < (l.length : Int)) = True := by simp [h]
     simp +decide only [e, zh _ _ h, Int.natCast_nonneg, vI, zbM, hpin, go_sem, reduceAdd, reduceMul]
     refine zd (zgE l[i] (left - l.length - (sumN zB (l.take i) : Nat)) hp (by omega) (hs _ (List.getElem_mem h))) hpin ?_
     have hle := ZR zB l (i + 1)
     have htk := xm zB l h
     by_cases h3 : left - l.length - (sumN zB (l.take i) : Nat) - ((zB l[i] : Nat) : Int) < 0
     · have e : sub left (l.length + sumN zB l) = -1 := yK (by omega)
       rw [e, yK h3]
       simp +decide only [ziB, hpin, go_sem, reduceAdd, reduceMul]
     · rw [xJ h3]
       have n3 : (left - l.length - (sumN zB (l.take i) : Nat) - ((zB l[i] : Nat) : Int) < 0) = False := by simpa using h3
       simp +decide only [n3, ziB, hpin, go_sem, reduceAdd, reduceMul]
       have e4 : left - l.length - (sumN zB (l.take i) : Nat) - ((zB l[i] : Nat) : Int) = left - l.length - (sumN zB (l.take (i + 1)) : Nat) := by omega
       rw [e4]
       exact ⟨i + 1, ⟨h, by omega⟩, by omega, Ent.weak (by simp +decide [subT, St.get, look, w64s (n := l.length) h (by omega), vI]) (by simp [subB]) (by simp) (by simp [zk, zj, vI])⟩
   · have hil : i = l.length := by omega
     subst hil
     have e : ((l.length : Int) < (l.length : Int)) = False := by simp
     have e2 : sub left (l.length + sumN zB l) = left - l.length - (sumN zB l : Nat) := by
       rw [List.take_length] at hp
       rw [xJ (by omega)]; omega
     rw [e2]
     simp +decide only [e, vI, hpin, go_sem, reduceAdd, reduceMul]
theorem zgB (x : NodeD) (h : zB x <= 1048576) : zu Tryz.prog 114 [.ro (ziB x)] (fun rs st => rs = [(true, zg false x)]) := by
 unfold zB at h
 refine zo (fn := Tryz.f114) (c := Tryz.f114.body.getD .skip) (res := [.ce 2 83]) (n := 18) zf (by kernel_rfl) (by rfl) (by kernel_rfl) (by rfl) (by rfl) (by simp [zp]) (fun C hpin hfull => ?_)
 simp +decide only [Tryz.f114, ziB, hpin, go_sem, reduceAdd, reduceMul]
 refine zd (zlt x.kids (by omega)) hpin ?_
 simp +decide only [zg, hpin, go_sem, reduceAdd, reduceMul]
theorem zfy (l : List NodeD) (h : l.length + sumN zB l <= 1048576) : zu Tryz.prog 37 [.ro (.imm 126 (rows zbM l))] (fun rs st => rs = [(false, [.row false 83 (rows (zg false) l)])]) := by
 refine zo (fn := Tryz.f37) (c := Tryz.f37.body.getD .skip) (res := [.tm 2]) (n := 23) zf (by kernel_rfl) (by rfl) (by kernel_rfl) (by rfl) (by rfl) (by simp [zp]) (fun C hpin hfull => ?_)
 have e1 : (56 : Nat) * (l.length : Int) <= 281474976710656 := by omega
 simp +decide only [Tryz.f37, hpin, go_sem, reduceAdd, reduceMul]
 refine ⟨by omega, by omega, by omega, ?_⟩
 let Z : List D := [.sc (.int .i64 0), .sc (.int .i64 0), .sc (.string ⟨#[]⟩), .sc (.slice none 0 0)]
 refine Tri.loop (ι := Nat) (fun i => i <= l.length) (fun i => ⟨23, [(0, .imm 126 (rows zbM l)), (2, .ref 2 [] 0), (3, .ref 3 [] l.length), (4, vI i)], [(3, .row 83 (zbu (zg false) Z l i)), (2, .row 83 [])]⟩) (fun i => l.length - i) 0 (by simp) ?_ ?_
 · refine Ent.weak ?_ ?_ ?_ ?_ <;> simp +decide [subT, subB, zk, zj, St.get, look, vI, vB, Z, zbS]
 · rintro i hi
   refine ze zf _ ?_
   by_cases h' : i < l.length
   · have e : ((i : Int) < (l.length : Int)) = True := by simp [h']
     have hc := ZB zB h'
     simp +decide only [e, h', zh _ _ h', Int.natCast_nonneg, vI, zbM, hpin, go_sem, reduceAdd, reduceMul]
     refine zd (zgB l[i] (by omega)) hpin ?_
     simp +decide only [e, h', ziB, zg, xU (zg false) Z l hi, zeg (zg false) Z l h', Int.natCast_nonneg, Z, hpin, go_sem, reduceAdd, reduceMul]
     have e4 := zef (zg false) Z l h'
     simp only [zg, cI, cS, cB] at e4
     refine ⟨i + 1, h', by omega, Ent.weak ?_ ?_ ?_ ?_⟩
     · simp +decide [subT, St.get, look, w64s (n := l.length) h' (by omega), vI, vB]
     · simp +decide [subB, look, e4, cI, Z]
     all_goals simp +decide [zk, zj, look, vI]
   · have hil : i = l.length := by omega
     subst hil
     have e : ((l.length : Int) < (l.length : Int)) = False := by simp
     simp +decide only [e, xU (zg false) Z l (Nat.le_refl _), zeh, vI, hpin, go_sem, reduceAdd, reduceMul]
theorem zhJ (x : NodeD) (h : zB x <= 1048576) : zu Tryz.prog 126 [.ro (zt x), .ro (zt x)] (fun rs st => rs = [(false, [cB true])]) := by
 unfold zB at h
 refine zo (fn := Tryz.f126) (c := Tryz.f126.body.getD .skip) (res := [.tm 4]) (n := 26) zf (by kernel_rfl) (by rfl) (by kernel_rfl) (by rfl) (by rfl) (by simp [zp]) (fun C hpin hfull => ?_)
 simp +decide only [Tryz.f126, zt, bne_self_eq_false, hpin, go_sem, reduceAdd, reduceMul]
 refine zd (zhK x.kids (by omega)) hpin ?_
 simp +decide only [bne_self_eq_false, hpin, go_sem, reduceAdd, reduceMul]
theorem zgn (l : List NodeD) (h : l.length + sumN zB l <= 1048576) : zu Tryz.prog 44 [.ro (.imm 83 (rows (zg true) l)), .ro (.imm 83 (rows (zg true) l))] (fun rs st => rs = [(false, [cB true])]) := by
 refine zo (fn := Tryz.f44) (c := Tryz.f44.body.getD .skip) (res := [.tm 4]) (n := 27) zf (by kernel_rfl) (by rfl) (by kernel_rfl) (by rfl) (by rfl) (by simp [zp]) (fun C hpin hfull => ?_)
 simp +decide only [Tryz.f44, bne_self_eq_false, hpin, go_sem, reduceAdd, reduceMul]
 refine Tri.loop (ι := Nat) (fun i => i <= l.length) (fun i => ⟨27, [(0, .imm 83 (rows (zg true) l)), (1, .imm 83 (rows (zg true) l)), (5, vI i)], []⟩) (fun i => l.length - i) 0 (by simp) ?_ ?_
 · refine Ent.weak ?_ ?_ ?_ ?_ <;> simp +decide [subT, subB, zk, zj, St.get, look, vI, vB]
 · rintro i hi
   refine ze zf _ ?_
   by_cases h' : i < l.length
   · have e : ((i : Int) < (l.length : Int)) = True := by simp [h']
     have hc := ZB zB h'
     simp +decide only [e, vI, hpin, go_sem, reduceAdd, reduceMul]
     refine Tri.sched zf [(0, true), (1, true), (4, true), (5, true), (2, true), (6, true), (3, true), (7, true), (8, false), (9, false)] zV (by kernel_rfl) (fun C2 hC2 => ?_)
     have hp2 := zY hC2 hpin
     simp +decide only [e, h', zh _ _ h', Int.natCast_nonneg, vI, zg, hp2, go_sem, reduceAdd, reduceMul]
     refine zd (zhJ l[i] (by omega)) hp2 ?_
     simp +decide only [zt, hp2, go_sem, reduceAdd, reduceMul]
     refine ⟨i + 1, h', by omega, Ent.weak ?_ ?_ ?_ ?_⟩ <;> simp +decide [subT, subB, zk, zj, St.get, look, w64s (n := l.length) h' (by omega), vI, vB]
   · have hil : i = l.length := by omega
     subst hil
     have e : ((l.length : Int) < (l.length : Int)) = False := by simp
     simp +decide only [e, vI, hpin, go_sem, reduceAdd, reduceMul]
theorem zfD (x : ParamD) (left : Int) (h0 : 0 <= left) (h1 : left < 1152921504606846976) (hs : ZI x) : zu Tryz.prog 193 [.ro (zdv x), .ro (.sc (.int .i64 left))] (fun rs st => rs = [(false, [cI (sub left (zH x))])]) := by
 refine zo (fn := Tryz.f193) (c := Tryz.f193.body.getD .skip) (res := [.tm 4]) (n := 13) zf (by kernel_rfl) (by rfl) (by kernel_rfl) (by rfl) (by rfl) (by simp [zp]) (fun C hpin hfull => ?_)
 have s0 := hs
 unfold ZI at s0
 have w0 : IntKind.i64.wrap (left - (x.name.size : Int)) = left - x.name.size := w64 (by omega) (by omega)
 simp +decide only [Tryz.f193, zdv, w0, hpin, go_sem, reduceAdd, reduceMul]
 by_cases h0_ : left - ((x.name.size : Nat) : Int) < 0
 · have e : sub left (zH x) = -1 := yK (by unfold zH; omega)
   rw [e]
   simp +decide only [h0_, hpin, go_sem, reduceAdd, reduceMul]
 have n0 : (left - ((x.name.size : Nat) : Int) < 0) = False := by simpa using h0_
 have e : sub left (zH x) = left - ((x.name.size : Nat) : Int) := by rw [xJ (by unfold zH; omega)]; unfold zH; omega
 rw [e]
 simp +decide only [n0, hpin, go_sem, reduceAdd, reduceMul]
theorem zey (l : List ParamD) (left : Int) (h0 : 0 <= left) (h1 : left < 1152921504606846976) (hl : l.length < 1152921504606846976) (hs : ∀ y ∈ l, ZI y) : zu Tryz.prog 163 [.ro (.imm 188 (rows Yu l)), .ro (.sc (.int .i64 left))] (fun rs st => rs = [(false, [cI (sub left (l.length + sumN zH l))])]) := by
 refine zo (fn := Tryz.f163) (c := Tryz.f163.body.getD .skip) (res := [.tm 4]) (n := 27) zf (by kernel_rfl) (by rfl) (by kernel_rfl) (by rfl) (by rfl) (by simp [zp]) (fun C hpin hfull => ?_)
 have w0 : IntKind.i64.wrap (left - (l.length : Int)) = left - l.length := w64 (by omega) (by omega)
 simp +decide only [Tryz.f163, w0, hpin, go_sem, reduceAdd, reduceMul]
 by_cases hn : left - (l.length : Int) < 0
 · have e : sub left (l.length + sumN zH l) = -1 := yK (by omega)
   rw [e]
   simp +decide only [hn, hpin, go_sem, reduceAdd, reduceMul]
 have nn : (left - (l.length : Int) < 0) = False := by simpa using hn
 simp +decide only [nn, hpin, go_sem, reduceAdd, reduceMul]
 refine Tri.loop (ι := Nat) (fun i => i <= l.length /\ 0 <= left - l.length - (sumN zH (l.take i) : Nat)) (fun i => ⟨27, [(0, .imm 188 (rows Yu l)), (1, vI (left - l.length - (sumN zH (l.take i) : Nat))), (5, vI i)], []⟩) (fun i => l.length - i) 0 ⟨Nat.zero_le _, by rw [zfF]; omega⟩ ?_ ?_
 · refine Ent.weak ?_ ?_ ?_ ?_ <;> simp +decide [subT, subB, zk, zj, zl, St.get, look, vI, vB, vS, sumN]
 · rintro i ⟨hi, hp⟩
   refine ze zf _ ?_
   by_cases h : i < l.length
   · have e : ((i : Int) < (l.length : Int)) = True := by simp [h]
     simp +decide only [e, zh _ _ h, Int.natCast_nonneg, vI, Yu, hpin, go_sem, reduceAdd, reduceMul]
     refine zd (zfD l[i] (left - l.length - (sumN zH (l.take i) : Nat)) hp (by omega) (hs _ (List.getElem_mem h))) hpin ?_
     have hle := ZR zH l (i + 1)
     have htk := xm zH l h
     by_cases h3 : left - l.length - (sumN zH (l.take i) : Nat) - ((zH l[i] : Nat) : Int) < 0
     · have e : sub left (l.length + sumN zH l) = -1 := yK (by omega)
       rw [e, yK h3]
       simp +decide only [zdv, hpin, go_sem, reduceAdd, reduceMul]
     · rw [xJ h3]
       have n3 : (left - l.length - (sumN zH (l.take i) : Nat) - ((zH l[i] : Nat) : Int) < 0) = False := by simpa using h3
       simp +decide only [n3, zdv, hpin, go_sem, reduceAdd, reduceMul]
       have e4 : left - l.length - (sumN zH (l.take i) : Nat) - ((zH l[i] : Nat) : Int) = left - l.length - (sumN zH (l.take (i + 1)) : Nat) := by omega
       rw [e4]
       exact ⟨i + 1, ⟨h, by omega⟩, by omega, Ent.weak (by simp +decide [subT, St.get, look, w64s (n := l.length) h (by omega), vI]) (by simp [subB]) (by simp) (by simp [zk, zj, vI])⟩
   · have hil : i = l.length := by omega
     subst hil
     have e : ((l.length : Int) < (l.length : Int)) = False := by simp
     have e2 : sub left (l.length + sumN zH l) = left - l.length - (sumN zH l : Nat) := by
       rw [List.take_length] at hp
       rw [xJ (by omega)]; omega
     rw [e2]
     simp +decide only [e, vI, hpin, go_sem, reduceAdd, reduceMul]
theorem zfx (x : ParamD) (h : zH x <= 1048576) : zu Tryz.prog 203 [.ro (zdv x)] (fun rs st => rs = [(true, zr false x)]) := by
 unfold zH at h
 refine zo (fn := Tryz.f203) (c := Tryz.f203.body.getD .skip) (res := [.ce 2 107]) (n := 11) zf (by kernel_rfl) (by rfl) (by kernel_rfl) (by rfl) (by rfl) (by simp [zp]) (fun C hpin hfull => ?_)
 simp +decide only [Tryz.f203, zdv, zr, hpin, go_sem, reduceAdd, reduceMul]
theorem zex (l : List ParamD) (h : l.length + sumN zH l <= 1048576) : zu Tryz.prog 174 [.ro (.imm 188 (rows Yu l))] (fun rs st => rs = [(false, [.row false 107 (rows (zr false) l)])]) := by
 refine zo (fn := Tryz.f174) (c := Tryz.f174.body.getD .skip) (res := [.tm 2]) (n := 23) zf (by kernel_rfl) (by rfl) (by kernel_rfl) (by rfl) (by rfl) (by simp [zp]) (fun C hpin hfull => ?_)
 have e1 : (24 : Nat) * (l.length : Int) <= 281474976710656 := by omega
 simp +decide only [Tryz.f174, hpin, go_sem, reduceAdd, reduceMul]
 refine ⟨by omega, by omega, by omega, ?_⟩
 let Z : List D := [.sc (.string ⟨#[]⟩), .sc (.int .i64 0)]
 refine Tri.loop (ι := Nat) (fun i => i <= l.length) (fun i => ⟨23, [(0, .imm 188 (rows Yu l)), (2, .ref 2 [] 0), (3, .ref 3 [] l.length), (4, vI i)], [(3, .row 107 (zbu (zr false) Z l i)), (2, .row 107 [])]⟩) (fun i => l.length - i) 0 (by simp) ?_ ?_
 · refine Ent.weak ?_ ?_ ?_ ?_ <;> simp +decide [subT, subB, zk, zj, St.get, look, vI, vB, Z, zbS]
 · rintro i hi
   refine ze zf _ ?_
   by_cases h' : i < l.length
   · have e : ((i : Int) < (l.length : Int)) = True := by simp [h']
     have hc := ZB zH h'
     simp +decide only [e, h', zh _ _ h', Int.natCast_nonneg, vI, Yu, hpin, go_sem, reduceAdd, reduceMul]
     refine zd (zfx l[i] (by omega)) hpin ?_
     simp +decide only [e, h', zdv, zr, xU (zr false) Z l hi, zeg (zr false) Z l h', Int.natCast_nonneg, Z, hpin, go_sem, reduceAdd, reduceMul]
     have e4 := zef (zr false) Z l h'
     simp only [zr, cI, cS, cB] at e4
     refine ⟨i + 1, h', by omega, Ent.weak ?_ ?_ ?_ ?_⟩
     · simp +decide [subT, St.get, look, w64s (n := l.length) h' (by omega), vI, vB]
     · simp +decide [subB, look, e4, cI, Z]
     all_goals simp +decide [zk, zj, look, vI]
   · have hil : i = l.length := by omega
     subst hil
     have e : ((l.length : Int) < (l.length : Int)) = False := by simp
     simp +decide only [e, xU (zr false) Z l (Nat.le_refl _), zeh, vI, hpin, go_sem, reduceAdd, reduceMul]
theorem zgm (x : ParamD) (h : zH x <= 1048576) : zu Tryz.prog 209 [.ro (zjE x), .ro (zjE x)] (fun rs st => rs = [(false, [cB true])]) := by
 unfold zH at h
 refine zo (fn := Tryz.f209) (c := Tryz.f209.body.getD .skip) (res := [.tm 4]) (n := 15) zf (by kernel_rfl) (by rfl) (by kernel_rfl) (by rfl) (by rfl) (by simp [zp]) (fun C hpin hfull => ?_)
 simp +decide only [Tryz.f209, zjE, bne_self_eq_false, hpin, go_sem, reduceAdd, reduceMul]
theorem zeL (l : List ParamD) (h : l.length + sumN zH l <= 1048576) : zu Tryz.prog 183 [.ro (.imm 107 (rows (zr true) l)), .ro (.imm 107 (rows (zr true) l))] (fun rs st => rs = [(false, [cB true])]) := by
 refine zo (fn := Tryz.f183) (c := Tryz.f183.body.getD .skip) (res := [.tm 4]) (n := 27) zf (by kernel_rfl) (by rfl) (by kernel_rfl) (by rfl) (by rfl) (by simp [zp]) (fun C hpin hfull => ?_)
 simp +decide only [Tryz.f183, bne_self_eq_false, hpin, go_sem, reduceAdd, reduceMul]
 refine Tri.loop (ι := Nat) (fun i => i <= l.length) (fun i => ⟨27, [(0, .imm 107 (rows (zr true) l)), (1, .imm 107 (rows (zr true) l)), (5, vI i)], []⟩) (fun i => l.length - i) 0 (by simp) ?_ ?_
 · refine Ent.weak ?_ ?_ ?_ ?_ <;> simp +decide [subT, subB, zk, zj, St.get, look, vI, vB]
 · rintro i hi
   refine ze zf _ ?_
   by_cases h' : i < l.length
   · have e : ((i : Int) < (l.length : Int)) = True := by simp [h']
     have hc := ZB zH h'
     simp +decide only [e, vI, hpin, go_sem, reduceAdd, reduceMul]
     refine Tri.sched zf [(0, true), (1, true), (4, true), (5, true), (2, true), (6, true), (3, true), (7, true), (8, false), (9, false)] zV (by kernel_rfl) (fun C2 hC2 => ?_)
     have hp2 := zY hC2 hpin
     simp +decide only [e, h', zh _ _ h', Int.natCast_nonneg, vI, zr, hp2, go_sem, reduceAdd, reduceMul]
     refine zd (zgm l[i] (by omega)) hp2 ?_
     simp +decide only [zjE, hp2, go_sem, reduceAdd, reduceMul]
     refine ⟨i + 1, h', by omega, Ent.weak ?_ ?_ ?_ ?_⟩ <;> simp +decide [subT, subB, zk, zj, St.get, look, w64s (n := l.length) h' (by omega), vI, vB]
   · have hil : i = l.length := by omega
     subst hil
     have e : ((l.length : Int) < (l.length : Int)) = False := by simp
     simp +decide only [e, vI, hpin, go_sem, reduceAdd, reduceMul]
theorem zkp (x : FnD) (left : Int) (h0 : 0 <= left) (h1 : left < 1152921504606846976) (hs : zeb x) : zu Tryz.prog 104 [.ro (fnV x), .ro (.sc (.int .i64 left))] (fun rs st => rs = [(false, [cI (sub left (yb x))])]) := by
 refine zo (fn := Tryz.f104) (c := Tryz.f104.body.getD .skip) (res := [.tm 4]) (n := 19) zf (by kernel_rfl) (by rfl) (by kernel_rfl) (by rfl) (by rfl) (by simp [zp]) (fun C hpin hfull => ?_)
 obtain ⟨s0, s1, q1⟩ := hs
 have w0 : IntKind.i64.wrap (left - (x.name.size : Int)) = left - x.name.size := w64 (by omega) (by omega)
 simp +decide only [Tryz.f104, fnV, w0, hpin, go_sem, reduceAdd, reduceMul]
 by_cases h0_ : left - ((x.name.size : Nat) : Int) < 0
 · have e : sub left (yb x) = -1 := yK (by unfold yb; omega)
   rw [e]
   simp +decide only [h0_, hpin, go_sem, reduceAdd, reduceMul]
 have n0 : (left - ((x.name.size : Nat) : Int) < 0) = False := by simpa using h0_
 simp +decide only [n0, hpin, go_sem, reduceAdd, reduceMul]
 refine zd (zey x.params (left - ((x.name.size : Nat) : Int)) (by omega) (by omega) s1 q1) hpin ?_
 by_cases h1_ : left - ((x.name.size : Nat) : Int) - (((x.params.length + sumN zH x.params) : Nat) : Int) < 0
 · have e : sub left (yb x) = -1 := yK (by unfold yb; omega)
   rw [e]
   rw [yK h1_]
   simp +decide only [h1_, hpin, go_sem, reduceAdd, reduceMul]
 rw [xJ h1_]
 have n1 : (left - ((x.name.size : Nat) : Int) - (((x.params.length + sumN zH x.params) : Nat) : Int) < 0) = False := by simpa using h1_
 have e : sub left (yb x) = left - ((x.name.size : Nat) : Int) - (((x.params.length + sumN zH x.params) : Nat) : Int) := by rw [xJ (by unfold yb; omega)]; unfold yb; omega
 rw [e]
 simp +decide only [n1, hpin, go_sem, reduceAdd, reduceMul]
theorem zik (l : List FnD) (left : Int) (h0 : 0 <= left) (h1 : left < 1152921504606846976) (hl : l.length < 1152921504606846976) (hs : ∀ y ∈ l, zeb y) : zu Tryz.prog 33 [.ro (.imm 130 (rows fnL l)), .ro (.sc (.int .i64 left))] (fun rs st => rs = [(false, [cI (sub left (l.length + sumN yb l))])]) := by
 refine zo (fn := Tryz.f33) (c := Tryz.f33.body.getD .skip) (res := [.tm 4]) (n := 27) zf (by kernel_rfl) (by rfl) (by kernel_rfl) (by rfl) (by rfl) (by simp [zp]) (fun C hpin hfull => ?_)
 have w0 : IntKind.i64.wrap (left - (l.length : Int)) = left - l.length := w64 (by omega) (by omega)
 simp +decide only [Tryz.f33, w0, hpin, go_sem, reduceAdd, reduceMul]
 by_cases hn : left - (l.length : Int) < 0
 · have e : sub left (l.length + sumN yb l) = -1 := yK (by omega)
   rw [e]
   simp +decide only [hn, hpin, go_sem, reduceAdd, reduceMul]
 have nn : (left - (l.length : Int) < 0) = False := by simpa using hn
 simp +decide only [nn, hpin, go_sem, reduceAdd, reduceMul]
 refine Tri.loop (ι := Nat) (fun i => i <= l.length /\ 0 <= left - l.length - (sumN yb (l.take i) : Nat)) (fun i => ⟨27, [(0, .imm 130 (rows fnL l)), (1, vI (left - l.length - (sumN yb (l.take i) : Nat))), (5, vI i)], []⟩) (fun i => l.length - i) 0 ⟨Nat.zero_le _, by rw [zfF]; omega⟩ ?_ ?_
 · refine Ent.weak ?_ ?_ ?_ ?_ <;> simp +decide [subT, subB, zk, zj, zl, St.get, look, vI, vB, vS, sumN]
 · rintro i ⟨hi, hp⟩
   refine ze zf _ ?_
   by_cases h : i < l.length
   · have e : ((i : Int) < (l.length : Int)) = True := by simp [h]
     simp +decide only [e, zh _ _ h, Int.natCast_nonneg, vI, fnL, hpin, go_sem, reduceAdd, reduceMul]
     refine zd (zkp l[i] (left - l.length - (sumN yb (l.take i) : Nat)) hp (by omega) (hs _ (List.getElem_mem h))) hpin ?_
     have hle := ZR yb l (i + 1)
     have htk := xm yb l h
     by_cases h3 : left - l.length - (sumN yb (l.take i) : Nat) - ((yb l[i] : Nat) : Int) < 0
     · have e : sub left (l.length + sumN yb l) = -1 := yK (by omega)
       rw [e, yK h3]
       simp +decide only [fnV, hpin, go_sem, reduceAdd, reduceMul]
     · rw [xJ h3]
       have n3 : (left - l.length - (sumN yb (l.take i) : Nat) - ((yb l[i] : Nat) : Int) < 0) = False := by simpa using h3
       simp +decide only [n3, fnV, hpin, go_sem, reduceAdd, reduceMul]
       have e4 : left - l.length - (sumN yb (l.take i) : Nat) - ((yb l[i] : Nat) : Int) = left - l.length - (sumN yb (l.take (i + 1)) : Nat) := by omega
       rw [e4]
       exact ⟨i + 1, ⟨h, by omega⟩, by omega, Ent.weak (by simp +decide [subT, St.get, look, w64s (n := l.length) h (by omega), vI]) (by simp [subB]) (by simp) (by simp [zk, zj, vI])⟩
   · have hil : i = l.length := by omega
     subst hil
     have e : ((l.length : Int) < (l.length : Int)) = False := by simp
     have e2 : sub left (l.length + sumN yb l) = left - l.length - (sumN yb l : Nat) := by
       rw [List.take_length] at hp
       rw [xJ (by omega)]; omega
     rw [e2]
     simp +decide only [e, vI, hpin, go_sem, reduceAdd, reduceMul]
theorem zko (x : FnD) (h : yb x <= 1048576) : zu Tryz.prog 115 [.ro (fnV x)] (fun rs st => rs = [(true, fnC false x)]) := by
 unfold yb at h
 refine zo (fn := Tryz.f115) (c := Tryz.f115.body.getD .skip) (res := [.ce 2 104]) (n := 21) zf (by kernel_rfl) (by rfl) (by kernel_rfl) (by rfl) (by rfl) (by simp [zp]) (fun C hpin hfull => ?_)
 simp +decide only [Tryz.f115, fnV, hpin, go_sem, reduceAdd, reduceMul]
 refine zd (zex x.params (by omega)) hpin ?_
 simp +decide only [fnC, hpin, go_sem, reduceAdd, reduceMul]
theorem zij (l : List FnD) (h : l.length + sumN yb l <= 1048576) : zu Tryz.prog 38 [.ro (.imm 130 (rows fnL l))] (fun rs st => rs = [(false, [.row false 104 (rows (fnC false) l)])]) := by
 refine zo (fn := Tryz.f38) (c := Tryz.f38.body.getD .skip) (res := [.tm 2]) (n := 23) zf (by kernel_rfl) (by rfl) (by kernel_rfl) (by rfl) (by rfl) (by simp [zp]) (fun C hpin hfull => ?_)
 have e1 : (64 : Nat) * (l.length : Int) <= 281474976710656 := by omega
 simp +decide only [Tryz.f38, hpin, go_sem, reduceAdd, reduceMul]
 refine ⟨by omega, by omega, by omega, ?_⟩
 let Z : List D := [.sc (.string ⟨#[]⟩), .sc (.slice none 0 0), .sc (.int .i64 0), .sc (.int .i64 0), .sc (.int .i64 0)]
 refine Tri.loop (ι := Nat) (fun i => i <= l.length) (fun i => ⟨23, [(0, .imm 130 (rows fnL l)), (2, .ref 2 [] 0), (3, .ref 3 [] l.length), (4, vI i)], [(3, .row 104 (zbu (fnC false) Z l i)), (2, .row 104 [])]⟩) (fun i => l.length - i) 0 (by simp) ?_ ?_
 · refine Ent.weak ?_ ?_ ?_ ?_ <;> simp +decide [subT, subB, zk, zj, St.get, look, vI, vB, Z, zbS]
 · rintro i hi
   refine ze zf _ ?_
   by_cases h' : i < l.length
   · have e : ((i : Int) < (l.length : Int)) = True := by simp [h']
     have hc := ZB yb h'
     simp +decide only [e, h', zh _ _ h', Int.natCast_nonneg, vI, fnL, hpin, go_sem, reduceAdd, reduceMul]
     refine zd (zko l[i] (by omega)) hpin ?_
     simp +decide only [e, h', fnV, fnC, xU (fnC false) Z l hi, zeg (fnC false) Z l h', Int.natCast_nonneg, Z, hpin, go_sem, reduceAdd, reduceMul]
     have e4 := zef (fnC false) Z l h'
     simp only [fnC, cI, cS, cB] at e4
     refine ⟨i + 1, h', by omega, Ent.weak ?_ ?_ ?_ ?_⟩
     · simp +decide [subT, St.get, look, w64s (n := l.length) h' (by omega), vI, vB]
     · simp +decide [subB, look, e4, cI, Z]
     all_goals simp +decide [zk, zj, look, vI]
   · have hil : i = l.length := by omega
     subst hil
     have e : ((l.length : Int) < (l.length : Int)) = False := by simp
     simp +decide only [e, xU (fnC false) Z l (Nat.le_refl _), zeh, vI, hpin, go_sem, reduceAdd, reduceMul]
theorem zlc (x : FnD) (h : yb x <= 1048576) : zu Tryz.prog 127 [.ro (fnW x), .ro (fnW x)] (fun rs st => rs = [(false, [cB true])]) := by
 unfold yb at h
 refine zo (fn := Tryz.f127) (c := Tryz.f127.body.getD .skip) (res := [.tm 4]) (n := 31) zf (by kernel_rfl) (by rfl) (by kernel_rfl) (by rfl) (by rfl) (by simp [zp]) (fun C hpin hfull => ?_)
 simp +decide only [Tryz.f127, fnW, bne_self_eq_false, hpin, go_sem, reduceAdd, reduceMul]
 refine zd (zeL x.params (by omega)) hpin ?_
 simp +decide only [bne_self_eq_false, hpin, go_sem, reduceAdd, reduceMul]
theorem zje (l : List FnD) (h : l.length + sumN yb l <= 1048576) : zu Tryz.prog 45 [.ro (.imm 104 (rows (fnC true) l)), .ro (.imm 104 (rows (fnC true) l))] (fun rs st => rs = [(false, [cB true])]) := by
 refine zo (fn := Tryz.f45) (c := Tryz.f45.body.getD .skip) (res := [.tm 4]) (n := 27) zf (by kernel_rfl) (by rfl) (by kernel_rfl) (by rfl) (by rfl) (by simp [zp]) (fun C hpin hfull => ?_)
 simp +decide only [Tryz.f45, bne_self_eq_false, hpin, go_sem, reduceAdd, reduceMul]
 refine Tri.loop (ι := Nat) (fun i => i <= l.length) (fun i => ⟨27, [(0, .imm 104 (rows (fnC true) l)), (1, .imm 104 (rows (fnC true) l)), (5, vI i)], []⟩) (fun i => l.length - i) 0 (by simp) ?_ ?_
 · refine Ent.weak ?_ ?_ ?_ ?_ <;> simp +decide [subT, subB, zk, zj, St.get, look, vI, vB]
 · rintro i hi
   refine ze zf _ ?_
   by_cases h' : i < l.length
   · have e : ((i : Int) < (l.length : Int)) = True := by simp [h']
     have hc := ZB yb h'
     simp +decide only [e, vI, hpin, go_sem, reduceAdd, reduceMul]
     refine Tri.sched zf [(0, true), (1, true), (4, true), (5, true), (2, true), (6, true), (3, true), (7, true), (8, false), (9, false)] zV (by kernel_rfl) (fun C2 hC2 => ?_)
     have hp2 := zY hC2 hpin
     simp +decide only [e, h', zh _ _ h', Int.natCast_nonneg, vI, fnC, hp2, go_sem, reduceAdd, reduceMul]
     refine zd (zlc l[i] (by omega)) hp2 ?_
     simp +decide only [fnW, hp2, go_sem, reduceAdd, reduceMul]
     refine ⟨i + 1, h', by omega, Ent.weak ?_ ?_ ?_ ?_⟩ <;> simp +decide [subT, subB, zk, zj, St.get, look, w64s (n := l.length) h' (by omega), vI, vB]
   · have hil : i = l.length := by omega
     subst hil
     have e : ((l.length : Int) < (l.length : Int)) = False := by simp
     simp +decide only [e, vI, hpin, go_sem, reduceAdd, reduceMul]
theorem zcY (x : ProgramD) (left : Int) (h0 : 0 <= left) (h1 : left < 1152921504606846976) (hs : Yg x) : zu Tryz.prog 9 [.ro (zA x), .ro (.sc (.int .i64 left))] (fun rs st => rs = [(false, [cI (sub left (zE x))])]) := by
 refine zo (fn := Tryz.f9) (c := Tryz.f9.body.getD .skip) (res := [.tm 4]) (n := 18) zf (by kernel_rfl) (by rfl) (by kernel_rfl) (by rfl) (by rfl) (by simp [zp]) (fun C hpin hfull => ?_)
 obtain ⟨s0, q0, s1, q1⟩ := hs
 simp +decide only [Tryz.f9, zA, hpin, go_sem, reduceAdd, reduceMul]
 refine zd (zfE x.nodes (left) (by omega) (by omega) s0 q0) hpin ?_
 by_cases h0_ : left - (((x.nodes.length + sumN zB x.nodes) : Nat) : Int) < 0
 · have e : sub left (zE x) = -1 := yK (by unfold zE; omega)
   rw [e]
   rw [yK h0_]
   simp +decide only [h0_, hpin, go_sem, reduceAdd, reduceMul]
 rw [xJ h0_]
 have n0 : (left - (((x.nodes.length + sumN zB x.nodes) : Nat) : Int) < 0) = False := by simpa using h0_
 simp +decide only [n0, hpin, go_sem, reduceAdd, reduceMul]
 refine zd (zik x.fns (left - (((x.nodes.length + sumN zB x.nodes) : Nat) : Int)) (by omega) (by omega) s1 q1) hpin ?_
 by_cases h1_ : left - (((x.nodes.length + sumN zB x.nodes) : Nat) : Int) - (((x.fns.length + sumN yb x.fns) : Nat) : Int) < 0
 · have e : sub left (zE x) = -1 := yK (by unfold zE; omega)
   rw [e]
   rw [yK h1_]
   simp +decide only [h1_, hpin, go_sem, reduceAdd, reduceMul]
 rw [xJ h1_]
 have n1 : (left - (((x.nodes.length + sumN zB x.nodes) : Nat) : Int) - (((x.fns.length + sumN yb x.fns) : Nat) : Int) < 0) = False := by simpa using h1_
 have e : sub left (zE x) = left - (((x.nodes.length + sumN zB x.nodes) : Nat) : Int) - (((x.fns.length + sumN yb x.fns) : Nat) : Int) := by rw [xJ (by unfold zE; omega)]; unfold zE; omega
 rw [e]
 simp +decide only [n1, hpin, go_sem, reduceAdd, reduceMul]
theorem xZ (x : ProgramD) (h : zE x <= 1048576) : zu Tryz.prog 11 [.ro (zA x)] (fun rs st => rs = [(true, za false x)]) := by
 unfold zE at h
 refine zo (fn := Tryz.f11) (c := Tryz.f11.body.getD .skip) (res := [.ce 2 36]) (n := 13) zf (by kernel_rfl) (by rfl) (by kernel_rfl) (by rfl) (by rfl) (by simp [zp]) (fun C hpin hfull => ?_)
 simp +decide only [Tryz.f11, zA, hpin, go_sem, reduceAdd, reduceMul]
 refine zd (zfy x.nodes (by omega)) hpin ?_
 simp +decide only [hpin, go_sem, reduceAdd, reduceMul]
 refine zd (zij x.fns (by omega)) hpin ?_
 simp +decide only [za, hpin, go_sem, reduceAdd, reduceMul]
theorem Zd (x : ProgramD) (h : zE x <= 1048576) : zu Tryz.prog 14 [.ro (zb x), .ro (zb x)] (fun rs st => rs = [(false, [cB true])]) := by
 unfold zE at h
 refine zo (fn := Tryz.f14) (c := Tryz.f14.body.getD .skip) (res := [.tm 4]) (n := 17) zf (by kernel_rfl) (by rfl) (by kernel_rfl) (by rfl) (by rfl) (by simp [zp]) (fun C hpin hfull => ?_)
 simp +decide only [Tryz.f14, zb, bne_self_eq_false, hpin, go_sem, reduceAdd, reduceMul]
 refine zd (zgn x.nodes (by omega)) hpin ?_
 simp +decide only [bne_self_eq_false, hpin, go_sem, reduceAdd, reduceMul]
 refine zd (zje x.fns (by omega)) hpin ?_
 simp +decide only [bne_self_eq_false, hpin, go_sem, reduceAdd, reduceMul]
theorem oInt : Opens Tryz.prog 3 (fun n : Int => [cI n]) (fun n => (Lit.int .i64 n).wf = true) := zhm (k := .i64) Tryz.underlying3 (by kernel_rfl)
theorem oStr : Opens Tryz.prog 9 (fun n : ByteArray => [cS n]) (fun s => s.size <= 140737488351232) := zhl Tryz.underlying9 (by kernel_rfl)
theorem zrm : Opens Tryz.prog 27 (fun l : List Int => [D.row true 3 (row1 cI l)]) (fun l => l.length * 8 <= 140737488351232 /\ ∀ x ∈ l, (Lit.int .i64 x).wf = true) := by
 have h := YP (t := 27) (e := 3) Tryz.underlying27 (by kernel_rfl) (of_decide_eq_true (by kernel_rfl)) (zhm (k := .i64) Tryz.underlying3 (by kernel_rfl))
 have hb : Tryz.prog.bytesOf 3 = 8 := by kernel_rfl
 rw [hb] at h
 exact h
def zhs (x : NodeD) : Prop := (Lit.int .i64 x.kind).wf = true /\ (Lit.int .i64 x.num).wf = true /\ x.name.size <= 140737488351232 /\ (x.kids.length * 8 <= 140737488351232 /\ ∀ y ∈ x.kids, (Lit.int .i64 y).wf = true)
theorem zrl : Opens Tryz.prog 126 zbM zhs := by
 have h := Yh (t := 126) Tryz.underlying126 (by kernel_rfl) (yX rfl oInt (yX rfl oInt (yX rfl oStr (XP rfl zrm))))
 exact zaW (fun x : NodeD => (x.kind, x.num, x.name, x.kids)) (fun a => ⟨a.1, a.2.1, a.2.2.1, a.2.2.2⟩) (fun _ => rfl) (fun _ => rfl) h
theorem zqi : Opens Tryz.prog 22 (fun l : List NodeD => [D.row true 126 (rows zbM l)]) (fun l => l.length * 56 <= 140737488351232 /\ ∀ y ∈ l, zhs y) := by
 have h := YP (t := 22) (e := 126) Tryz.underlying22 (by kernel_rfl) (of_decide_eq_true (by kernel_rfl)) zrl
 have hb : Tryz.prog.bytesOf 126 = 56 := by kernel_rfl
 rw [hb] at h
 exact h
theorem zhr (x : NodeD) (h : zhs x) : Xw x := by
 unfold zhs at h
 unfold Xw
 obtain ⟨p0, p1, p2, ⟨p3, q3⟩⟩ := h
 exact ⟨by omega, by omega⟩
def zdw (x : ParamD) : Prop := x.name.size <= 140737488351232 /\ (Lit.int .i64 x.ty).wf = true
theorem zqh : Opens Tryz.prog 188 Yu zdw := by
 have h := Yh (t := 188) Tryz.underlying188 (by kernel_rfl) (yX rfl oStr (XP rfl oInt))
 exact zaW (fun x : ParamD => (x.name, x.ty)) (fun a => ⟨a.1, a.2⟩) (fun _ => rfl) (fun _ => rfl) h
theorem zoZ : Opens Tryz.prog 128 (fun l : List ParamD => [D.row true 188 (rows Yu l)]) (fun l => l.length * 24 <= 140737488351232 /\ ∀ y ∈ l, zdw y) := by
 have h := YP (t := 128) (e := 188) Tryz.underlying128 (by kernel_rfl) (of_decide_eq_true (by kernel_rfl)) zqh
 have hb : Tryz.prog.bytesOf 188 = 24 := by kernel_rfl
 rw [hb] at h
 exact h
theorem zfL (x : ParamD) (h : zdw x) : ZI x := by
 unfold zdw at h
 unfold ZI
 obtain ⟨p0, p1⟩ := h
 omega
def fnOk (x : FnD) : Prop := x.name.size <= 140737488351232 /\ (x.params.length * 24 <= 140737488351232 /\ ∀ y ∈ x.params, zdw y) /\ (Lit.int .i64 x.res).wf = true /\ (Lit.int .i64 x.body).wf = true /\ (Lit.int .i64 x.ret).wf = true
theorem oFn : Opens Tryz.prog 130 fnL fnOk := by
 have h := Yh (t := 130) Tryz.underlying130 (by kernel_rfl) (yX rfl oStr (yX rfl zoZ (yX rfl oInt (yX rfl oInt (XP rfl oInt)))))
 exact zaW (fun x : FnD => (x.name, x.params, x.res, x.body, x.ret)) (fun a => ⟨a.1, a.2.1, a.2.2.1, a.2.2.2.1, a.2.2.2.2⟩) (fun _ => rfl) (fun _ => rfl) h
theorem oFnS : Opens Tryz.prog 23 (fun l : List FnD => [D.row true 130 (rows fnL l)]) (fun l => l.length * 64 <= 140737488351232 /\ ∀ y ∈ l, fnOk y) := by
 have h := YP (t := 23) (e := 130) Tryz.underlying23 (by kernel_rfl) (of_decide_eq_true (by kernel_rfl)) oFn
 have hb : Tryz.prog.bytesOf 130 = 64 := by kernel_rfl
 rw [hb] at h
 exact h
theorem zkW (x : FnD) (h : fnOk x) : zeb x := by
 unfold fnOk at h
 unfold zeb
 obtain ⟨p0, ⟨p1, q1⟩, p2, p3, p4⟩ := h
 exact ⟨by omega, by omega, fun y hy => zfL y (q1 y hy)⟩
def zdo (x : ProgramD) : Prop := (x.nodes.length * 56 <= 140737488351232 /\ ∀ y ∈ x.nodes, zhs y) /\ (x.fns.length * 64 <= 140737488351232 /\ ∀ y ∈ x.fns, fnOk y)
theorem znu : Opens Tryz.prog 25 YN zdo := by
 have h := Yh (t := 25) Tryz.underlying25 (by kernel_rfl) (yX rfl zqi (XP rfl oFnS))
 exact zaW (fun x : ProgramD => (x.nodes, x.fns)) (fun a => ⟨a.1, a.2⟩) (fun _ => rfl) (fun _ => rfl) h
theorem zdn (x : ProgramD) (h : zdo x) : Yg x := by
 unfold zdo at h
 unfold Yg
 obtain ⟨⟨p0, q0⟩, ⟨p1, q1⟩⟩ := h
 exact ⟨by omega, fun y hy => zhr y (q0 y hy), by omega, fun y hy => zkW y (q1 y hy)⟩
theorem zhc (x : ProgramD) : ∀ d ∈ YN x, shD d = d := by
 have h : shL (YN x) = YN x := congrFun zdq x
 intro d hd
 rw [Xn] at h
 obtain ⟨i, hi, rfl⟩ := List.getElem_of_mem hd
 have := List.getElem_of_eq h (by simpa using hi)
 simpa using this
theorem YJ {α : Type} {f : α -> Nat} (hf : ∀ x, 1 <= f x) : ∀ l : List α, l.length <= sumN f l
 | [] => by simp [sumN]
 | x :: r => by
   have h1 := YJ hf r
   have h2 := hf x
   simp only [sumN, List.map_cons, List.sum_cons, List.length_cons] at h1 |-
   omega
theorem xf {EA EB : List (List D)} {x : List D} {i : Nat} (hA : EA.length = i) : (EA ++ x :: EB).getD i [] = x := by
 subst hA; simp [List.getD]
theorem yB {EA EB : List (List D)} {x : List D} {i : Nat} (hA : EA.length = i) : (EA ++ x :: EB)[i]? = some x := by
 subst hA; simp
theorem xe {EA EB : List (List D)} {x y : List D} {i : Nat} (hA : EA.length = i) : (EA ++ x :: EB).set i y = EA ++ y :: EB := by
 subst hA; simp
theorem yr {EA EB : List (List D)} {x : List D} {i j : Nat} (hA : EA.length = i) : cellAt (EA ++ x :: EB) i j = x[j]? := by
 unfold cellAt; rw [yB hA]; rfl
theorem yI {EA EB : List (List D)} {x : List D} {i j : Nat} {d : D} (hA : EA.length = i) : zO (EA ++ x :: EB) i j d = EA ++ x.set j d :: EB := by
 unfold zO; rw [xf hA, xe hA]
theorem ziF (k : Int) (n : Nat) : (if Zu k n = Zu k (Zu k n).length then k + ((Zu k n).length : Nat) else -1) = k + n := by simp [zn]
theorem uU8 : Tryz.prog.underlying 5 = some (.int .u8) := by kernel_rfl
theorem rU8 : isR Tryz.prog 5 = some false := by kernel_rfl
theorem sU8 : szT Tryz.prog 5 = 1 := by kernel_rfl
theorem zU8 : zeroCells Tryz.prog 5 = some [.int .u8 0] := by kernel_rfl
theorem eU8 : elT Tryz.prog 150 = some 5 := by kernel_rfl
theorem rU8S : isR Tryz.prog 150 = some false := by kernel_rfl
theorem uI64 : (Tryz.prog.underlying 3).isSome = true := by kernel_rfl
def Xe (q : Int) : Bool := q.tmod 3 == 0
def digB (k : Int) : ByteArray := strOfNums [IntKind.u8.wrap (IntKind.i64.wrap (48 + k.tmod 10))]
def digs (k : Int) (s : ByteArray) : ByteArray := if h : 0 < k then digs (k.tdiv 10) (digB k ++ s) else s
termination_by k.toNat
decreasing_by rw [Int.tdiv_eq_ediv_of_nonneg (by omega)]; omega
def zcr (k : Int) : ByteArray := if k <= 0 then ⟨#[109, 48]⟩ else ⟨#[109]⟩ ++ digs k ⟨#[]⟩
theorem zmE (n : Nat) : ∀ (k : Int) (s : ByteArray), k.toNat <= n -> (digs k s).size <= s.size + k.toNat := by
 induction n with
 | zero => intro k s hk; rw [digs, dif_neg (by omega)]; omega
 | succ n ih =>
   intro k s hk
   rw [digs]
   by_cases h : 0 < k
   · rw [dif_pos h]
     have e : k.tdiv 10 = k / 10 := Int.tdiv_eq_ediv_of_nonneg (by omega)
     have := ih (k.tdiv 10) (digB k ++ s) (by rw [e]; omega)
     have e2 : (digB k ++ s).size = 1 + s.size := by rw [ByteArray.size_append]; simp [digB, strOfNums_size]
     rw [e] at this |-
     omega
   · rw [dif_neg h]; omega
theorem yL (k : Int) (h0 : 0 <= k) (h1 : k < 4611686018427387904) : zu Tryz.prog 52 [.ro (.sc (.int .i64 k))] (fun rs st => rs = [(false, [cS (zcr k)])]) := by
 refine zo (fn := Tryz.f52) (c := Tryz.f52.body.getD .skip) (res := [.tm 2]) (n := 20) zf (by kernel_rfl) (by rfl) (by kernel_rfl) (by rfl) (by rfl) (by simp [zp]) (fun C hpin hfull => ?_)
 simp +decide only [Tryz.f52, hpin, go_sem, reduceAdd, reduceMul]
 by_cases hk : k <= 0
 · have e1 : zcr k = ⟨#[109, 48]⟩ := by rw [zcr, if_pos hk]
   have e2 : (k <= 0) = True := by simp [hk]
   simp +decide only [e1, e2, hpin, go_sem, reduceAdd, reduceMul]
 have e1 : zcr k = ⟨#[109]⟩ ++ digs k ⟨#[]⟩ := by rw [zcr, if_neg hk]
 have e2 : (k <= 0) = False := by simp; omega
 simp +decide only [e1, e2, hpin, go_sem, reduceAdd, reduceMul]
 refine Tri.loop (ι := Int × ByteArray) (fun p => 0 <= p.1 /\ p.1 <= k /\ p.2.size + p.1.toNat <= k.toNat /\ digs p.1 p.2 = digs k ⟨#[]⟩) (fun p => ⟨20, [(0, vI p.1), (3, vS p.2)], []⟩) (fun p => p.1.toNat) (k, ⟨#[]⟩) ⟨h0, by simp, by show (0 : Nat) + _ <= _; simp, rfl⟩ ?_ ?_
 · refine Ent.weak ?_ ?_ ?_ ?_ <;> simp +decide [subT, subB, zk, zj, zl, St.get, look, vI, vB, vS]
 · rintro ⟨q, s⟩ ⟨q0, q1, q2, q3⟩
   refine ze zf _ ?_
   by_cases hq : 0 < q
   · have e3 : (0 < q) = True := by simp [hq]
     have e4 : (digB q).size + s.size <= 9223372036854775807 := by simp [digB, strOfNums_size]; simp at q2; omega
     have e6 : q.tdiv 10 = q / 10 := Int.tdiv_eq_ediv_of_nonneg q0
     have e5 : IntKind.i64.wrap (q.tdiv 10) = q.tdiv 10 := w64 (by rw [e6]; omega) (by rw [e6]; omega)
     have e7 : strOfNums [IntKind.u8.wrap (IntKind.i64.wrap (48 + q.tmod 10))] = digB q := rfl
     simp +decide only [e3, e4, e5, e7, vI, vS, uU8, rU8, sU8, zU8, eU8, rU8S, uI64, hpin, go_sem, reduceAdd, reduceMul]
     refine ⟨(q.tdiv 10, digB q ++ s), ⟨?_, ?_, ?_, ?_⟩, ?_, Ent.weak ?_ ?_ ?_ ?_⟩
     · simp only [e6]; omega
     · simp only [e6]; omega
     · simp only [e6, ByteArray.size_append, digB, strOfNums_size, List.length_cons, List.length_nil]; simp at q2; omega
     · rw [<- q3, digs.eq_def q s, dif_pos hq]
     · simp only [e6]; omega
     all_goals simp +decide [subT, subB, zk, zj, zl, St.get, look, vI, vB, vS]
   · have e3 : (0 < q) = False := by simp [hq]
     have e4 : digs q s = s := by rw [digs, dif_neg hq]
     simp only [e4] at q3
     have e5 : 1 + s.size <= 9223372036854775807 := by rw [q3]; have := zmE k.toNat k ⟨#[]⟩ (Nat.le_refl _); have e9 : (⟨#[]⟩ : ByteArray).size = 0 := rfl; rw [e9] at this; omega
     have e6 : (⟨#[109]⟩ : ByteArray).size + s.size <= 9223372036854775807 := e5
     simp +decide only [e1, e3, e6, <- q3, vI, vS, hpin, go_sem, reduceAdd, reduceMul]
def insN (x : InsD) : Nat := 6 + x.args.length
def insM (q : Int) (x : InsD) : InsD := ⟨q, (q + 1), ((q + 1) + 1), (((q + 1) + 1) + 1), ((((q + 1) + 1) + 1) + 1), zcr (((((q + 1) + 1) + 1) + 1) + 1), Zu ((((((q + 1) + 1) + 1) + 1) + 1) + 1) x.args.length⟩
def YU : Int -> List InsD -> List InsD
 | _, [] => []
 | q, x :: r => insM q x :: YU (q + (insN x : Nat)) r
theorem Xz : ∀ (q : Int) (l : List InsD), (YU q l).length = l.length
 | _, [] => rfl
 | q, x :: r => by simp [YU, Xz]
theorem zck : ∀ (q : Int) (l l2 : List InsD), YU q (l ++ l2) = YU q l ++ YU (q + (sumN insN l : Nat)) l2
 | q, [], l2 => by simp [YU, sumN]
 | q, x :: r, l2 => by
   have e : q + (insN x : Nat) + (sumN insN r : Nat) = q + (sumN insN (x :: r) : Nat) := by simp only [sumN, List.map_cons, List.sum_cons]; omega
   simp only [YU, List.cons_append, zck, e]
theorem zkU (q : Int) (l : List InsD) {i : Nat} (h : i < l.length) : YU q (l.take (i + 1)) = YU q (l.take i) ++ [insM (q + (sumN insN (l.take i) : Nat)) l[i]] := by
 rw [List.take_succ_eq_append_getElem h, zck]; rfl
attribute [go_sem] Xz
theorem zmR (l : List InsD) (k : Int) (h0 : 0 <= k) (h1 : k + (sumN insN l : Nat) < 4611686018427387904) :
   SoundAt Tryz.prog 49 (fun uf => zp 0 [.ro (.ref 2000 [] l.length), .ro (.sc (.int .i64 k))]) [(2000, .row 139 (rows (insC false) l))]
     (fun rs st => rs = [(false, [cI (k + (sumN insN l : Nat))])] /\ xK st.ob [(2000, .row 139 (rows (insC false) (YU k l)))]) := by
 have hll := YJ (f := insN) (fun x => by unfold insN; omega) l
 refine yH (fn := Tryz.f49) (c := Tryz.f49.body.getD .skip) (res := [.tm 4]) (n := 63) zf (by kernel_rfl) (by rfl) (by kernel_rfl) (by rfl) (by rfl) (by simp [zp]) (fun uf ub C hpin hpin2 hfull => ?_)
 simp +decide only [Tryz.f49, hpin, go_sem, reduceAdd, reduceMul]
 refine Tri.loop (ι := Nat) (fun i => i <= l.length) (fun i => ⟨63, [(0, .ref 2000 [] l.length), (1, vI (k + (sumN insN (l.take i) : Nat))), (5, vI i)], [(2000, .row 139 (rows (insC false) (YU k (l.take i)) ++ rows (insC false) (l.drop i)))]⟩) (fun i => l.length - i) 0 (by simp) ?_ ?_
 · refine Ent.weak ?_ ?_ ?_ ?_ <;> simp +decide [subT, subB, zk, zj, St.get, look, vI, vB, rows, sumN, YU]
 · rintro i hi
   refine ze zf _ ?_
   by_cases h' : i < l.length
   · have e : ((i : Int) < (l.length : Int)) = True := by simp [h']
     have hs1 := xm insN l h'
     have hs2 := ZR insN l (i + 1)
     have hu : insN l[i] = 6 + l[i].args.length := rfl
     rw [List.drop_eq_getElem_cons h']
     obtain ⟨EA, hEA⟩ : ∃ E, E = rows (insC false) (YU k (l.take i)) := ⟨_, rfl⟩
     obtain ⟨EB, hEB⟩ : ∃ E, E = rows (insC false) (l.drop (i + 1)) := ⟨_, rfl⟩
     obtain ⟨q, hq⟩ : ∃ q, q = k + (sumN insN (l.take i) : Nat) := ⟨_, rfl⟩
     have e4 : EA ++ insC false (insM q l[i]) :: EB = rows (insC false) (YU k (l.take (i + 1))) ++ rows (insC false) (l.drop (i + 1)) := by
       rw [hEA, hEB, hq, zkU k l h']; simp [rows]
     have hA : EA.length = i := by rw [hEA, yg, Xz]; simp; omega
     have hn : EA.length + (EB.length + 1) = l.length := by rw [hA, hEB, yg, List.length_drop]; omega
     have e0 : rows (insC false) (YU k (l.take i)) ++ rows (insC false) (l[i] :: l.drop (i + 1)) = EA ++ insC false l[i] :: EB := by rw [hEA, hEB]; rfl
     rw [e0, <- hq]
     have hq0 : 0 <= q := by omega
     have w0 : IntKind.i64.wrap (q + 1) = q + 1 := w64 (by omega) (by omega)
     have w1 : IntKind.i64.wrap ((q + 1) + 1) = (q + 1) + 1 := w64 (by omega) (by omega)
     have w2 : IntKind.i64.wrap (((q + 1) + 1) + 1) = ((q + 1) + 1) + 1 := w64 (by omega) (by omega)
     have w3 : IntKind.i64.wrap ((((q + 1) + 1) + 1) + 1) = (((q + 1) + 1) + 1) + 1 := w64 (by omega) (by omega)
     have w4 : IntKind.i64.wrap (((((q + 1) + 1) + 1) + 1) + 1) = ((((q + 1) + 1) + 1) + 1) + 1 := w64 (by omega) (by omega)
     have w5 : IntKind.i64.wrap ((((((q + 1) + 1) + 1) + 1) + 1) + 1) = (((((q + 1) + 1) + 1) + 1) + 1) + 1 := w64 (by omega) (by omega)
     simp +decide only [e, h', hn, xf hA, yB hA, xe hA, yr hA, yI hA, Int.natCast_nonneg, vI, insC, w0, w1, w2, w3, w4, w5, hpin, go_sem, reduceAdd, reduceMul]
     refine zd (yL (((((q + 1) + 1) + 1) + 1) + 1) (by omega) (by omega)) hpin ?_
     simp +decide only [e, h', hn, xf hA, yB hA, xe hA, yr hA, yI hA, Int.natCast_nonneg, vI, insC, w0, w1, w2, w3, w4, w5, hpin, go_sem, reduceAdd, reduceMul]
     refine zbW 2000 [(i, 6)] 1000 (x := ?x6) (e := 3) (es := row1 cI l[i].args) ?ho ?hs (by simp) (by decide) ?ho2 (hpin 1000 rfl) (fun z => ?_)
     case ho => exact rfl
     case hs => simp [subO, subD, yr hA]
     case ho2 => exact rfl
     simp +decide only [e, h', hn, xf hA, yB hA, xe hA, yr hA, yI hA, Int.natCast_nonneg, vI, insC, w0, w1, w2, w3, w4, w5, hpin, go_sem, reduceAdd, reduceMul]
     refine ZP (zbf l[i].args ((((((q + 1) + 1) + 1) + 1) + 1) + 1) (by omega) (by omega) (by omega)) (zdr (pin3 hpin) (by decide)) [(2000, 1000)] ⟨rfl, rfl, rfl⟩ (fun uf => ⟨rfl, rfl⟩) (fun uf => ?_) ?_
     · simp +decide only [e, h', hn, xf hA, yB hA, xe hA, yr hA, yI hA, Int.natCast_nonneg, vI, insC, w0, w1, w2, w3, w4, w5, zn, hpin, go_sem, reduceAdd, reduceMul]
     simp +decide only [e, h', hn, xf hA, yB hA, xe hA, yr hA, yI hA, Int.natCast_nonneg, vI, insC, w0, w1, w2, w3, w4, w5, zn, hpin, go_sem, reduceAdd, reduceMul]
     refine ⟨i + 1, h', by omega, Ent.weak ?_ ?_ ?_ ?_⟩
     · have e5 : k + (sumN insN (l.take (i + 1)) : Nat) = (((((((q + 1) + 1) + 1) + 1) + 1) + 1) + l[i].args.length) := by omega
       simp +decide [subT, St.get, look, w64s (n := l.length) h' (by omega), vI, vB, e5, hn]
     · rw [<- e4]; simp +decide [subB, look, insC, insM, cI, cS, cB, Xe]
     all_goals simp +decide [zk, zj, look, vI, hn]
   · have hil : i = l.length := by omega
     subst hil
     have e : ((l.length : Int) < (l.length : Int)) = False := by simp
     have e6 : rows (insC false) (YU k (l.take l.length)) ++ rows (insC false) (l.drop l.length) = rows (insC false) (YU k l) := by simp [rows]
     rw [e6]
     simp +decide only [e, vI, hpin, go_sem, reduceAdd, reduceMul]
def zrQ (x : CodeD) : Nat := 2 + x.locals.length + sumN insN x.words
def zrR (q : Int) (x : CodeD) : CodeD := ⟨zcr q, (q + 1), Zu ((q + 1) + 1) x.locals.length, YU (((q + 1) + 1) + x.locals.length) x.words⟩
def zmG : Int -> List CodeD -> List CodeD
 | _, [] => []
 | q, x :: r => zrR q x :: zmG (q + (zrQ x : Nat)) r
theorem zbz : ∀ (q : Int) (l : List CodeD), (zmG q l).length = l.length
 | _, [] => rfl
 | q, x :: r => by simp [zmG, zbz]
attribute [go_sem] zbz
def yz (x : NodeD) : Nat := 3 + x.kids.length
def zcq (q : Int) (x : NodeD) : NodeD := ⟨q, (q + 1), zcr ((q + 1) + 1), Zu (((q + 1) + 1) + 1) x.kids.length⟩
def yE : Int -> List NodeD -> List NodeD
 | _, [] => []
 | q, x :: r => zcq q x :: yE (q + (yz x : Nat)) r
theorem Zb : ∀ (q : Int) (l : List NodeD), (yE q l).length = l.length
 | _, [] => rfl
 | q, x :: r => by simp [yE, Zb]
theorem YQ : ∀ (q : Int) (l l2 : List NodeD), yE q (l ++ l2) = yE q l ++ yE (q + (sumN yz l : Nat)) l2
 | q, [], l2 => by simp [yE, sumN]
 | q, x :: r, l2 => by
   have e : q + (yz x : Nat) + (sumN yz r : Nat) = q + (sumN yz (x :: r) : Nat) := by simp only [sumN, List.map_cons, List.sum_cons]; omega
   simp only [yE, List.cons_append, YQ, e]
theorem zdE (q : Int) (l : List NodeD) {i : Nat} (h : i < l.length) : yE q (l.take (i + 1)) = yE q (l.take i) ++ [zcq (q + (sumN yz (l.take i) : Nat)) l[i]] := by
 rw [List.take_succ_eq_append_getElem h, YQ]; rfl
theorem zkM (q : Int) (l : List NodeD) {i : Nat} (h : i < l.length) (h2 : i < (yE q l).length) : (yE q l)[i] = zcq (q + (sumN yz (l.take i) : Nat)) l[i] := by
 have e : l = l.take (i + 1) ++ l.drop (i + 1) := (List.take_append_drop _ _).symm
 have hl : (yE q (l.take i)).length = i := by rw [Zb]; simp; omega
 have e2 : (yE q l)[i]? = some (zcq (q + (sumN yz (l.take i) : Nat)) l[i]) := by
   conv => lhs; rw [e, YQ, zdE q l h, List.append_assoc]
   rw [List.getElem?_append_right (by omega), hl, Nat.sub_self]; rfl
 exact (List.getElem?_eq_some_iff.1 e2).2
attribute [go_sem] Zb
theorem zdK (l : List NodeD) (k : Int) (h0 : 0 <= k) (h1 : k + (sumN yz l : Nat) < 4611686018427387904) :
   SoundAt Tryz.prog 46 (fun uf => zp 0 [.ro (.ref 2000 [] l.length), .ro (.sc (.int .i64 k))]) [(2000, .row 83 (rows (zg false) l))]
     (fun rs st => rs = [(false, [cI (k + (sumN yz l : Nat))])] /\ xK st.ob [(2000, .row 83 (rows (zg false) (yE k l)))]) := by
 have hll := YJ (f := yz) (fun x => by unfold yz; omega) l
 refine yH (fn := Tryz.f46) (c := Tryz.f46.body.getD .skip) (res := [.tm 4]) (n := 42) zf (by kernel_rfl) (by rfl) (by kernel_rfl) (by rfl) (by rfl) (by simp [zp]) (fun uf ub C hpin hpin2 hfull => ?_)
 simp +decide only [Tryz.f46, hpin, go_sem, reduceAdd, reduceMul]
 refine Tri.loop (ι := Nat) (fun i => i <= l.length) (fun i => ⟨42, [(0, .ref 2000 [] l.length), (1, vI (k + (sumN yz (l.take i) : Nat))), (5, vI i)], [(2000, .row 83 (rows (zg false) (yE k (l.take i)) ++ rows (zg false) (l.drop i)))]⟩) (fun i => l.length - i) 0 (by simp) ?_ ?_
 · refine Ent.weak ?_ ?_ ?_ ?_ <;> simp +decide [subT, subB, zk, zj, St.get, look, vI, vB, rows, sumN, yE]
 · rintro i hi
   refine ze zf _ ?_
   by_cases h' : i < l.length
   · have e : ((i : Int) < (l.length : Int)) = True := by simp [h']
     have hs1 := xm yz l h'
     have hs2 := ZR yz l (i + 1)
     have hu : yz l[i] = 3 + l[i].kids.length := rfl
     rw [List.drop_eq_getElem_cons h']
     obtain ⟨EA, hEA⟩ : ∃ E, E = rows (zg false) (yE k (l.take i)) := ⟨_, rfl⟩
     obtain ⟨EB, hEB⟩ : ∃ E, E = rows (zg false) (l.drop (i + 1)) := ⟨_, rfl⟩
     obtain ⟨q, hq⟩ : ∃ q, q = k + (sumN yz (l.take i) : Nat) := ⟨_, rfl⟩
     have e4 : EA ++ zg false (zcq q l[i]) :: EB = rows (zg false) (yE k (l.take (i + 1))) ++ rows (zg false) (l.drop (i + 1)) := by
       rw [hEA, hEB, hq, zdE k l h']; simp [rows]
     have hA : EA.length = i := by rw [hEA, yg, Zb]; simp; omega
     have hn : EA.length + (EB.length + 1) = l.length := by rw [hA, hEB, yg, List.length_drop]; omega
     have e0 : rows (zg false) (yE k (l.take i)) ++ rows (zg false) (l[i] :: l.drop (i + 1)) = EA ++ zg false l[i] :: EB := by rw [hEA, hEB]; rfl
     rw [e0, <- hq]
     have hq0 : 0 <= q := by omega
     have w0 : IntKind.i64.wrap (q + 1) = q + 1 := w64 (by omega) (by omega)
     have w1 : IntKind.i64.wrap ((q + 1) + 1) = (q + 1) + 1 := w64 (by omega) (by omega)
     have w2 : IntKind.i64.wrap (((q + 1) + 1) + 1) = ((q + 1) + 1) + 1 := w64 (by omega) (by omega)
     simp +decide only [e, h', hn, xf hA, yB hA, xe hA, yr hA, yI hA, Int.natCast_nonneg, vI, zg, w0, w1, w2, hpin, go_sem, reduceAdd, reduceMul]
     refine zd (yL ((q + 1) + 1) (by omega) (by omega)) hpin ?_
     simp +decide only [e, h', hn, xf hA, yB hA, xe hA, yr hA, yI hA, Int.natCast_nonneg, vI, zg, w0, w1, w2, hpin, go_sem, reduceAdd, reduceMul]
     refine zbW 2000 [(i, 3)] 1000 (x := ?x3) (e := 3) (es := row1 cI l[i].kids) ?ho ?hs (by simp) (by decide) ?ho2 (hpin 1000 rfl) (fun z => ?_)
     case ho => exact rfl
     case hs => simp [subO, subD, yr hA]
     case ho2 => exact rfl
     simp +decide only [e, h', hn, xf hA, yB hA, xe hA, yr hA, yI hA, Int.natCast_nonneg, vI, zg, w0, w1, w2, hpin, go_sem, reduceAdd, reduceMul]
     refine ZP (zbf l[i].kids (((q + 1) + 1) + 1) (by omega) (by omega) (by omega)) (zdr (pin3 hpin) (by decide)) [(2000, 1000)] ⟨rfl, rfl, rfl⟩ (fun uf => ⟨rfl, rfl⟩) (fun uf => ?_) ?_
     · simp +decide only [e, h', hn, xf hA, yB hA, xe hA, yr hA, yI hA, Int.natCast_nonneg, vI, zg, w0, w1, w2, zn, hpin, go_sem, reduceAdd, reduceMul]
     simp +decide only [e, h', hn, xf hA, yB hA, xe hA, yr hA, yI hA, Int.natCast_nonneg, vI, zg, w0, w1, w2, zn, hpin, go_sem, reduceAdd, reduceMul]
     refine ⟨i + 1, h', by omega, Ent.weak ?_ ?_ ?_ ?_⟩
     · have e5 : k + (sumN yz (l.take (i + 1)) : Nat) = ((((q + 1) + 1) + 1) + l[i].kids.length) := by omega
       simp +decide [subT, St.get, look, w64s (n := l.length) h' (by omega), vI, vB, e5, hn]
     · rw [<- e4]; simp +decide [subB, look, zg, zcq, cI, cS, cB, Xe]
     all_goals simp +decide [zk, zj, look, vI, hn]
   · have hil : i = l.length := by omega
     subst hil
     have e : ((l.length : Int) < (l.length : Int)) = False := by simp
     have e6 : rows (zg false) (yE k (l.take l.length)) ++ rows (zg false) (l.drop l.length) = rows (zg false) (yE k l) := by simp [rows]
     rw [e6]
     simp +decide only [e, vI, hpin, go_sem, reduceAdd, reduceMul]
theorem zdW (l : List NodeD) (k : Int) (h0 : 0 <= k) (h1 : k + (sumN yz l : Nat) < 4611686018427387904) :
   zu Tryz.prog 74 [.ro (.imm 83 (rows (zg true) (yE k l))), .ro (.sc (.int .i64 k))] (fun rs st => rs = [(false, [cI (k + (sumN yz l : Nat))])]) := by
 have hll := YJ (f := yz) (fun x => by unfold yz; omega) l
 refine zo (fn := Tryz.f74) (c := Tryz.f74.body.getD .skip) (res := [.tm 4]) (n := 50) zf (by kernel_rfl) (by rfl) (by kernel_rfl) (by rfl) (by rfl) (by simp [zp]) (fun C hpin hfull => ?_)
 simp +decide only [Tryz.f74, hpin, go_sem, reduceAdd, reduceMul]
 refine Tri.loop (ι := Nat) (fun i => i <= l.length) (fun i => ⟨50, [(0, .imm 83 (rows (zg true) (yE k l))), (1, vI (k + (sumN yz (l.take i) : Nat))), (5, vI i)], []⟩) (fun i => l.length - i) 0 (by simp) ?_ ?_
 · refine Ent.weak ?_ ?_ ?_ ?_ <;> simp +decide [subT, subB, zk, zj, St.get, look, vI, vB, rows, sumN]
 · rintro i hi
   refine ze zf _ ?_
   by_cases h' : i < l.length
   · have e : ((i : Int) < (l.length : Int)) = True := by simp [h']
     have hs1 := xm yz l h'
     have hs2 := ZR yz l (i + 1)
     have hu : yz l[i] = 3 + l[i].kids.length := rfl
     have h2 : i < (yE k l).length := by rw [Zb]; exact h'
     have hg : (rows (zg true) (yE k l)).getD i [] = zg true (zcq (k + (sumN yz (l.take i) : Nat)) l[i]) := by rw [zh _ _ h2, zkM k l h' h2]
     obtain ⟨q, hq⟩ : ∃ q, q = k + (sumN yz (l.take i) : Nat) := ⟨_, rfl⟩
     rw [<- hq] at hg |-
     have hq0 : 0 <= q := by omega
     have w0 : IntKind.i64.wrap (q + 1) = q + 1 := w64 (by omega) (by omega)
     have w1 : IntKind.i64.wrap ((q + 1) + 1) = (q + 1) + 1 := w64 (by omega) (by omega)
     have w2 : IntKind.i64.wrap (((q + 1) + 1) + 1) = ((q + 1) + 1) + 1 := w64 (by omega) (by omega)
     simp +decide only [e, h', hg, Xe, bne_self_eq_false, Int.natCast_nonneg, vI, zg, zcq, w0, w1, w2, hpin, go_sem, reduceAdd, reduceMul]
     refine Tri.sched zf [(0, true), (1, true), (2, true), (3, true), (5, true), (4, true), (6, false), (7, false)] zV (by kernel_rfl) (fun C2 hC2 => ?_)
     have hp2 := zY hC2 hpin
     simp +decide only [e, h', hg, Xe, bne_self_eq_false, Int.natCast_nonneg, vI, zg, zcq, w0, w1, w2, hp2, go_sem, reduceAdd, reduceMul]
     refine zd (yL ((q + 1) + 1) (by omega) (by omega)) hp2 ?_
     simp +decide only [e, h', hg, Xe, bne_self_eq_false, Int.natCast_nonneg, vI, zg, zcq, w0, w1, w2, hp2, go_sem, reduceAdd, reduceMul]
     try simp +decide only [e, h', hg, Xe, bne_self_eq_false, Int.natCast_nonneg, vI, zg, zcq, w0, w1, w2, hpin, go_sem, reduceAdd, reduceMul]
     refine zd (zgg (Zu (((q + 1) + 1) + 1) l[i].kids.length) (((q + 1) + 1) + 1) (by rw [zn]; omega) (by omega) (by rw [zn]; omega)) hpin ?_
     rw [ziF]
     have n3 : (((((q + 1) + 1) + 1) + l[i].kids.length : Int) < 0) = False := by simp; omega
     try simp +decide only [e, h', hg, Xe, bne_self_eq_false, Int.natCast_nonneg, vI, zg, zcq, w0, w1, w2, n3, hpin, go_sem, reduceAdd, reduceMul]
     have e5 : k + (sumN yz (l.take (i + 1)) : Nat) = ((((q + 1) + 1) + 1) + l[i].kids.length) := by omega
     refine ⟨i + 1, h', by omega, Ent.weak ?_ ?_ ?_ ?_⟩
     · simp +decide [subT, St.get, look, w64s (n := l.length) h' (by omega), vI, vB, e5]
     all_goals simp +decide [subB, zk, zj, look, vI]
   · have hil : i = l.length := by omega
     subst hil
     have e : ((l.length : Int) < (l.length : Int)) = False := by simp
     simp +decide only [e, vI, hpin, go_sem, reduceAdd, reduceMul]
def zU (x : ParamD) : Nat := 2
def Xt (q : Int) (x : ParamD) : ParamD := ⟨zcr q, (q + 1)⟩
def yo : Int -> List ParamD -> List ParamD
 | _, [] => []
 | q, x :: r => Xt q x :: yo (q + (zU x : Nat)) r
theorem xD : ∀ (q : Int) (l : List ParamD), (yo q l).length = l.length
 | _, [] => rfl
 | q, x :: r => by simp [yo, xD]
theorem Yp : ∀ (q : Int) (l l2 : List ParamD), yo q (l ++ l2) = yo q l ++ yo (q + (sumN zU l : Nat)) l2
 | q, [], l2 => by simp [yo, sumN]
 | q, x :: r, l2 => by
   have e : q + (zU x : Nat) + (sumN zU r : Nat) = q + (sumN zU (x :: r) : Nat) := by simp only [sumN, List.map_cons, List.sum_cons]; omega
   simp only [yo, List.cons_append, Yp, e]
theorem zce (q : Int) (l : List ParamD) {i : Nat} (h : i < l.length) : yo q (l.take (i + 1)) = yo q (l.take i) ++ [Xt (q + (sumN zU (l.take i) : Nat)) l[i]] := by
 rw [List.take_succ_eq_append_getElem h, Yp]; rfl
theorem ziv (q : Int) (l : List ParamD) {i : Nat} (h : i < l.length) (h2 : i < (yo q l).length) : (yo q l)[i] = Xt (q + (sumN zU (l.take i) : Nat)) l[i] := by
 have e : l = l.take (i + 1) ++ l.drop (i + 1) := (List.take_append_drop _ _).symm
 have hl : (yo q (l.take i)).length = i := by rw [xD]; simp; omega
 have e2 : (yo q l)[i]? = some (Xt (q + (sumN zU (l.take i) : Nat)) l[i]) := by
   conv => lhs; rw [e, Yp, zce q l h, List.append_assoc]
   rw [List.getElem?_append_right (by omega), hl, Nat.sub_self]; rfl
 exact (List.getElem?_eq_some_iff.1 e2).2
attribute [go_sem] xD
theorem zcs (l : List ParamD) (k : Int) (h0 : 0 <= k) (h1 : k + (sumN zU l : Nat) < 4611686018427387904) :
   SoundAt Tryz.prog 128 (fun uf => zp 0 [.ro (.ref 2000 [] l.length), .ro (.sc (.int .i64 k))]) [(2000, .row 107 (rows (zr false) l))]
     (fun rs st => rs = [(false, [cI (k + (sumN zU l : Nat))])] /\ xK st.ob [(2000, .row 107 (rows (zr false) (yo k l)))]) := by
 have hll := YJ (f := zU) (fun x => by unfold zU; omega) l
 refine yH (fn := Tryz.f128) (c := Tryz.f128.body.getD .skip) (res := [.tm 4]) (n := 28) zf (by kernel_rfl) (by rfl) (by kernel_rfl) (by rfl) (by rfl) (by simp [zp]) (fun uf ub C hpin hpin2 hfull => ?_)
 simp +decide only [Tryz.f128, hpin, go_sem, reduceAdd, reduceMul]
 refine Tri.loop (ι := Nat) (fun i => i <= l.length) (fun i => ⟨28, [(0, .ref 2000 [] l.length), (1, vI (k + (sumN zU (l.take i) : Nat))), (5, vI i)], [(2000, .row 107 (rows (zr false) (yo k (l.take i)) ++ rows (zr false) (l.drop i)))]⟩) (fun i => l.length - i) 0 (by simp) ?_ ?_
 · refine Ent.weak ?_ ?_ ?_ ?_ <;> simp +decide [subT, subB, zk, zj, St.get, look, vI, vB, rows, sumN, yo]
 · rintro i hi
   refine ze zf _ ?_
   by_cases h' : i < l.length
   · have e : ((i : Int) < (l.length : Int)) = True := by simp [h']
     have hs1 := xm zU l h'
     have hs2 := ZR zU l (i + 1)
     have hu : zU l[i] = 2 := rfl
     rw [List.drop_eq_getElem_cons h']
     obtain ⟨EA, hEA⟩ : ∃ E, E = rows (zr false) (yo k (l.take i)) := ⟨_, rfl⟩
     obtain ⟨EB, hEB⟩ : ∃ E, E = rows (zr false) (l.drop (i + 1)) := ⟨_, rfl⟩
     obtain ⟨q, hq⟩ : ∃ q, q = k + (sumN zU (l.take i) : Nat) := ⟨_, rfl⟩
     have e4 : EA ++ zr false (Xt q l[i]) :: EB = rows (zr false) (yo k (l.take (i + 1))) ++ rows (zr false) (l.drop (i + 1)) := by
       rw [hEA, hEB, hq, zce k l h']; simp [rows]
     have hA : EA.length = i := by rw [hEA, yg, xD]; simp; omega
     have hn : EA.length + (EB.length + 1) = l.length := by rw [hA, hEB, yg, List.length_drop]; omega
     have e0 : rows (zr false) (yo k (l.take i)) ++ rows (zr false) (l[i] :: l.drop (i + 1)) = EA ++ zr false l[i] :: EB := by rw [hEA, hEB]; rfl
     rw [e0, <- hq]
     have hq0 : 0 <= q := by omega
     have w0 : IntKind.i64.wrap (q + 1) = q + 1 := w64 (by omega) (by omega)
     have w1 : IntKind.i64.wrap ((q + 1) + 1) = (q + 1) + 1 := w64 (by omega) (by omega)
     simp +decide only [e, h', hn, xf hA, yB hA, xe hA, yr hA, yI hA, Int.natCast_nonneg, vI, zr, w0, w1, hpin, go_sem, reduceAdd, reduceMul]
     refine zd (yL q (by omega) (by omega)) hpin ?_
     simp +decide only [e, h', hn, xf hA, yB hA, xe hA, yr hA, yI hA, Int.natCast_nonneg, vI, zr, w0, w1, hpin, go_sem, reduceAdd, reduceMul]
     refine ⟨i + 1, h', by omega, Ent.weak ?_ ?_ ?_ ?_⟩
     · have e5 : k + (sumN zU (l.take (i + 1)) : Nat) = ((q + 1) + 1) := by omega
       simp +decide [subT, St.get, look, w64s (n := l.length) h' (by omega), vI, vB, e5, hn]
     · rw [<- e4]; simp +decide [subB, look, zr, Xt, cI, cS, cB, Xe]
     all_goals simp +decide [zk, zj, look, vI, hn]
   · have hil : i = l.length := by omega
     subst hil
     have e : ((l.length : Int) < (l.length : Int)) = False := by simp
     have e6 : rows (zr false) (yo k (l.take l.length)) ++ rows (zr false) (l.drop l.length) = rows (zr false) (yo k l) := by simp [rows]
     rw [e6]
     simp +decide only [e, vI, hpin, go_sem, reduceAdd, reduceMul]
theorem zcw (l : List ParamD) (k : Int) (h0 : 0 <= k) (h1 : k + (sumN zU l : Nat) < 4611686018427387904) :
   zu Tryz.prog 151 [.ro (.imm 107 (rows (zr true) (yo k l))), .ro (.sc (.int .i64 k))] (fun rs st => rs = [(false, [cI (k + (sumN zU l : Nat))])]) := by
 have hll := YJ (f := zU) (fun x => by unfold zU; omega) l
 refine zo (fn := Tryz.f151) (c := Tryz.f151.body.getD .skip) (res := [.tm 4]) (n := 32) zf (by kernel_rfl) (by rfl) (by kernel_rfl) (by rfl) (by rfl) (by simp [zp]) (fun C hpin hfull => ?_)
 simp +decide only [Tryz.f151, hpin, go_sem, reduceAdd, reduceMul]
 refine Tri.loop (ι := Nat) (fun i => i <= l.length) (fun i => ⟨32, [(0, .imm 107 (rows (zr true) (yo k l))), (1, vI (k + (sumN zU (l.take i) : Nat))), (5, vI i)], []⟩) (fun i => l.length - i) 0 (by simp) ?_ ?_
 · refine Ent.weak ?_ ?_ ?_ ?_ <;> simp +decide [subT, subB, zk, zj, St.get, look, vI, vB, rows, sumN]
 · rintro i hi
   refine ze zf _ ?_
   by_cases h' : i < l.length
   · have e : ((i : Int) < (l.length : Int)) = True := by simp [h']
     have hs1 := xm zU l h'
     have hs2 := ZR zU l (i + 1)
     have hu : zU l[i] = 2 := rfl
     have h2 : i < (yo k l).length := by rw [xD]; exact h'
     have hg : (rows (zr true) (yo k l)).getD i [] = zr true (Xt (k + (sumN zU (l.take i) : Nat)) l[i]) := by rw [zh _ _ h2, ziv k l h' h2]
     obtain ⟨q, hq⟩ : ∃ q, q = k + (sumN zU (l.take i) : Nat) := ⟨_, rfl⟩
     rw [<- hq] at hg |-
     have hq0 : 0 <= q := by omega
     have w0 : IntKind.i64.wrap (q + 1) = q + 1 := w64 (by omega) (by omega)
     have w1 : IntKind.i64.wrap ((q + 1) + 1) = (q + 1) + 1 := w64 (by omega) (by omega)
     simp +decide only [e, h', hg, Xe, bne_self_eq_false, Int.natCast_nonneg, vI, zr, Xt, w0, w1, hpin, go_sem, reduceAdd, reduceMul]
     refine Tri.sched zf [(0, true), (1, true), (2, true), (3, true), (5, true), (4, true), (6, false), (7, false)] zV (by kernel_rfl) (fun C2 hC2 => ?_)
     have hp2 := zY hC2 hpin
     simp +decide only [e, h', hg, Xe, bne_self_eq_false, Int.natCast_nonneg, vI, zr, Xt, w0, w1, hp2, go_sem, reduceAdd, reduceMul]
     refine zd (yL q (by omega) (by omega)) hp2 ?_
     simp +decide only [e, h', hg, Xe, bne_self_eq_false, Int.natCast_nonneg, vI, zr, Xt, w0, w1, hp2, go_sem, reduceAdd, reduceMul]
     try simp +decide only [e, h', hg, Xe, bne_self_eq_false, Int.natCast_nonneg, vI, zr, Xt, w0, w1, hpin, go_sem, reduceAdd, reduceMul]
     have e5 : k + (sumN zU (l.take (i + 1)) : Nat) = ((q + 1) + 1) := by omega
     refine ⟨i + 1, h', by omega, Ent.weak ?_ ?_ ?_ ?_⟩
     · simp +decide [subT, St.get, look, w64s (n := l.length) h' (by omega), vI, vB, e5]
     all_goals simp +decide [subB, zk, zj, look, vI]
   · have hil : i = l.length := by omega
     subst hil
     have e : ((l.length : Int) < (l.length : Int)) = False := by simp
     simp +decide only [e, vI, hpin, go_sem, reduceAdd, reduceMul]
def fnN (x : FnD) : Nat := 4 + sumN zU x.params
def fnM (q : Int) (x : FnD) : FnD := ⟨zcr q, yo (q + 1) x.params, ((q + 1) + (sumN zU x.params : Nat)), (((q + 1) + (sumN zU x.params : Nat)) + 1), ((((q + 1) + (sumN zU x.params : Nat)) + 1) + 1)⟩
def fnML : Int -> List FnD -> List FnD
 | _, [] => []
 | q, x :: r => fnM q x :: fnML (q + (fnN x : Nat)) r
theorem ZX : ∀ (q : Int) (l : List FnD), (fnML q l).length = l.length
 | _, [] => rfl
 | q, x :: r => by simp [fnML, ZX]
theorem zaC : ∀ (q : Int) (l l2 : List FnD), fnML q (l ++ l2) = fnML q l ++ fnML (q + (sumN fnN l : Nat)) l2
 | q, [], l2 => by simp [fnML, sumN]
 | q, x :: r, l2 => by
   have e : q + (fnN x : Nat) + (sumN fnN r : Nat) = q + (sumN fnN (x :: r) : Nat) := by simp only [sumN, List.map_cons, List.sum_cons]; omega
   simp only [fnML, List.cons_append, zaC, e]
theorem zhH (q : Int) (l : List FnD) {i : Nat} (h : i < l.length) : fnML q (l.take (i + 1)) = fnML q (l.take i) ++ [fnM (q + (sumN fnN (l.take i) : Nat)) l[i]] := by
 rw [List.take_succ_eq_append_getElem h, zaC]; rfl
theorem znO (q : Int) (l : List FnD) {i : Nat} (h : i < l.length) (h2 : i < (fnML q l).length) : (fnML q l)[i] = fnM (q + (sumN fnN (l.take i) : Nat)) l[i] := by
 have e : l = l.take (i + 1) ++ l.drop (i + 1) := (List.take_append_drop _ _).symm
 have hl : (fnML q (l.take i)).length = i := by rw [ZX]; simp; omega
 have e2 : (fnML q l)[i]? = some (fnM (q + (sumN fnN (l.take i) : Nat)) l[i]) := by
   conv => lhs; rw [e, zaC, zhH q l h, List.append_assoc]
   rw [List.getElem?_append_right (by omega), hl, Nat.sub_self]; rfl
 exact (List.getElem?_eq_some_iff.1 e2).2
attribute [go_sem] ZX
theorem zfU (l : List FnD) (k : Int) (h0 : 0 <= k) (h1 : k + (sumN fnN l : Nat) < 4611686018427387904) :
   SoundAt Tryz.prog 47 (fun uf => zp 0 [.ro (.ref 2000 [] l.length), .ro (.sc (.int .i64 k))]) [(2000, .row 104 (rows (fnC false) l))]
     (fun rs st => rs = [(false, [cI (k + (sumN fnN l : Nat))])] /\ xK st.ob [(2000, .row 104 (rows (fnC false) (fnML k l)))]) := by
 have hll := YJ (f := fnN) (fun x => by unfold fnN; omega) l
 refine yH (fn := Tryz.f47) (c := Tryz.f47.body.getD .skip) (res := [.tm 4]) (n := 49) zf (by kernel_rfl) (by rfl) (by kernel_rfl) (by rfl) (by rfl) (by simp [zp]) (fun uf ub C hpin hpin2 hfull => ?_)
 simp +decide only [Tryz.f47, hpin, go_sem, reduceAdd, reduceMul]
 refine Tri.loop (ι := Nat) (fun i => i <= l.length) (fun i => ⟨49, [(0, .ref 2000 [] l.length), (1, vI (k + (sumN fnN (l.take i) : Nat))), (5, vI i)], [(2000, .row 104 (rows (fnC false) (fnML k (l.take i)) ++ rows (fnC false) (l.drop i)))]⟩) (fun i => l.length - i) 0 (by simp) ?_ ?_
 · refine Ent.weak ?_ ?_ ?_ ?_ <;> simp +decide [subT, subB, zk, zj, St.get, look, vI, vB, rows, sumN, fnML]
 · rintro i hi
   refine ze zf _ ?_
   by_cases h' : i < l.length
   · have e : ((i : Int) < (l.length : Int)) = True := by simp [h']
     have hs1 := xm fnN l h'
     have hs2 := ZR fnN l (i + 1)
     have hu : fnN l[i] = 4 + sumN zU l[i].params := rfl
     rw [List.drop_eq_getElem_cons h']
     obtain ⟨EA, hEA⟩ : ∃ E, E = rows (fnC false) (fnML k (l.take i)) := ⟨_, rfl⟩
     obtain ⟨EB, hEB⟩ : ∃ E, E = rows (fnC false) (l.drop (i + 1)) := ⟨_, rfl⟩
     obtain ⟨q, hq⟩ : ∃ q, q = k + (sumN fnN (l.take i) : Nat) := ⟨_, rfl⟩
     have e4 : EA ++ fnC false (fnM q l[i]) :: EB = rows (fnC false) (fnML k (l.take (i + 1))) ++ rows (fnC false) (l.drop (i + 1)) := by
       rw [hEA, hEB, hq, zhH k l h']; simp [rows]
     have hA : EA.length = i := by rw [hEA, yg, ZX]; simp; omega
     have hn : EA.length + (EB.length + 1) = l.length := by rw [hA, hEB, yg, List.length_drop]; omega
     have e0 : rows (fnC false) (fnML k (l.take i)) ++ rows (fnC false) (l[i] :: l.drop (i + 1)) = EA ++ fnC false l[i] :: EB := by rw [hEA, hEB]; rfl
     rw [e0, <- hq]
     have hq0 : 0 <= q := by omega
     have w0 : IntKind.i64.wrap (q + 1) = q + 1 := w64 (by omega) (by omega)
     have w1 : IntKind.i64.wrap (((q + 1) + (sumN zU l[i].params : Nat)) + 1) = ((q + 1) + (sumN zU l[i].params : Nat)) + 1 := w64 (by omega) (by omega)
     have w2 : IntKind.i64.wrap ((((q + 1) + (sumN zU l[i].params : Nat)) + 1) + 1) = (((q + 1) + (sumN zU l[i].params : Nat)) + 1) + 1 := w64 (by omega) (by omega)
     have w3 : IntKind.i64.wrap (((((q + 1) + (sumN zU l[i].params : Nat)) + 1) + 1) + 1) = ((((q + 1) + (sumN zU l[i].params : Nat)) + 1) + 1) + 1 := w64 (by omega) (by omega)
     simp +decide only [e, h', hn, xf hA, yB hA, xe hA, yr hA, yI hA, Int.natCast_nonneg, vI, fnC, w0, w1, w2, w3, hpin, go_sem, reduceAdd, reduceMul]
     refine zd (yL q (by omega) (by omega)) hpin ?_
     simp +decide only [e, h', hn, xf hA, yB hA, xe hA, yr hA, yI hA, Int.natCast_nonneg, vI, fnC, w0, w1, w2, w3, hpin, go_sem, reduceAdd, reduceMul]
     refine zbW 2000 [(i, 1)] 1000 (x := ?x1) (e := 107) (es := rows (zr false) l[i].params) ?ho ?hs (by simp) (by decide) ?ho2 (hpin 1000 rfl) (fun z => ?_)
     case ho => exact rfl
     case hs => simp [subO, subD, yr hA]
     case ho2 => exact rfl
     simp +decide only [e, h', hn, xf hA, yB hA, xe hA, yr hA, yI hA, Int.natCast_nonneg, vI, fnC, w0, w1, w2, w3, hpin, go_sem, reduceAdd, reduceMul]
     have hgeparams := YJ (f := zU) (fun x => by unfold zU; omega) l[i].params
     refine ZP (zcs l[i].params (q + 1) (by omega) (by omega)) (zdr (pin3 hpin) (by decide)) [(2000, 1000)] ⟨rfl, rfl, rfl⟩ (fun uf => ⟨rfl, rfl⟩) (fun uf => ?_) ?_
     · simp +decide only [e, h', hn, xf hA, yB hA, xe hA, yr hA, yI hA, Int.natCast_nonneg, vI, fnC, w0, w1, w2, w3, hpin, go_sem, reduceAdd, reduceMul]
     simp +decide only [e, h', hn, xf hA, yB hA, xe hA, yr hA, yI hA, Int.natCast_nonneg, vI, fnC, w0, w1, w2, w3, hpin, go_sem, reduceAdd, reduceMul]
     refine ⟨i + 1, h', by omega, Ent.weak ?_ ?_ ?_ ?_⟩
     · have e5 : k + (sumN fnN (l.take (i + 1)) : Nat) = (((((q + 1) + (sumN zU l[i].params : Nat)) + 1) + 1) + 1) := by omega
       simp +decide [subT, St.get, look, w64s (n := l.length) h' (by omega), vI, vB, e5, hn]
     · rw [<- e4]; simp +decide [subB, look, fnC, fnM, cI, cS, cB, Xe]
     all_goals simp +decide [zk, zj, look, vI, hn]
   · have hil : i = l.length := by omega
     subst hil
     have e : ((l.length : Int) < (l.length : Int)) = False := by simp
     have e6 : rows (fnC false) (fnML k (l.take l.length)) ++ rows (fnC false) (l.drop l.length) = rows (fnC false) (fnML k l) := by simp [rows]
     rw [e6]
     simp +decide only [e, vI, hpin, go_sem, reduceAdd, reduceMul]
theorem zgh (l : List FnD) (k : Int) (h0 : 0 <= k) (h1 : k + (sumN fnN l : Nat) < 4611686018427387904) :
   zu Tryz.prog 75 [.ro (.imm 104 (rows (fnC true) (fnML k l))), .ro (.sc (.int .i64 k))] (fun rs st => rs = [(false, [cI (k + (sumN fnN l : Nat))])]) := by
 have hll := YJ (f := fnN) (fun x => by unfold fnN; omega) l
 refine zo (fn := Tryz.f75) (c := Tryz.f75.body.getD .skip) (res := [.tm 4]) (n := 59) zf (by kernel_rfl) (by rfl) (by kernel_rfl) (by rfl) (by rfl) (by simp [zp]) (fun C hpin hfull => ?_)
 simp +decide only [Tryz.f75, hpin, go_sem, reduceAdd, reduceMul]
 refine Tri.loop (ι := Nat) (fun i => i <= l.length) (fun i => ⟨59, [(0, .imm 104 (rows (fnC true) (fnML k l))), (1, vI (k + (sumN fnN (l.take i) : Nat))), (5, vI i)], []⟩) (fun i => l.length - i) 0 (by simp) ?_ ?_
 · refine Ent.weak ?_ ?_ ?_ ?_ <;> simp +decide [subT, subB, zk, zj, St.get, look, vI, vB, rows, sumN]
 · rintro i hi
   refine ze zf _ ?_
   by_cases h' : i < l.length
   · have e : ((i : Int) < (l.length : Int)) = True := by simp [h']
     have hs1 := xm fnN l h'
     have hs2 := ZR fnN l (i + 1)
     have hu : fnN l[i] = 4 + sumN zU l[i].params := rfl
     have h2 : i < (fnML k l).length := by rw [ZX]; exact h'
     have hg : (rows (fnC true) (fnML k l)).getD i [] = fnC true (fnM (k + (sumN fnN (l.take i) : Nat)) l[i]) := by rw [zh _ _ h2, znO k l h' h2]
     obtain ⟨q, hq⟩ : ∃ q, q = k + (sumN fnN (l.take i) : Nat) := ⟨_, rfl⟩
     rw [<- hq] at hg |-
     have hq0 : 0 <= q := by omega
     have w0 : IntKind.i64.wrap (q + 1) = q + 1 := w64 (by omega) (by omega)
     have w1 : IntKind.i64.wrap (((q + 1) + (sumN zU l[i].params : Nat)) + 1) = ((q + 1) + (sumN zU l[i].params : Nat)) + 1 := w64 (by omega) (by omega)
     have w2 : IntKind.i64.wrap ((((q + 1) + (sumN zU l[i].params : Nat)) + 1) + 1) = (((q + 1) + (sumN zU l[i].params : Nat)) + 1) + 1 := w64 (by omega) (by omega)
     have w3 : IntKind.i64.wrap (((((q + 1) + (sumN zU l[i].params : Nat)) + 1) + 1) + 1) = ((((q + 1) + (sumN zU l[i].params : Nat)) + 1) + 1) + 1 := w64 (by omega) (by omega)
     simp +decide only [e, h', hg, Xe, bne_self_eq_false, Int.natCast_nonneg, vI, fnC, fnM, w0, w1, w2, w3, hpin, go_sem, reduceAdd, reduceMul]
     refine Tri.sched zf [(0, true), (1, true), (2, true), (3, true), (5, true), (4, true), (6, false), (7, false)] zV (by kernel_rfl) (fun C2 hC2 => ?_)
     have hp2 := zY hC2 hpin
     simp +decide only [e, h', hg, Xe, bne_self_eq_false, Int.natCast_nonneg, vI, fnC, fnM, w0, w1, w2, w3, hp2, go_sem, reduceAdd, reduceMul]
     refine zd (yL q (by omega) (by omega)) hp2 ?_
     simp +decide only [e, h', hg, Xe, bne_self_eq_false, Int.natCast_nonneg, vI, fnC, fnM, w0, w1, w2, w3, hp2, go_sem, reduceAdd, reduceMul]
     try simp +decide only [e, h', hg, Xe, bne_self_eq_false, Int.natCast_nonneg, vI, fnC, fnM, w0, w1, w2, w3, hpin, go_sem, reduceAdd, reduceMul]
     refine zd (zcw l[i].params (q + 1) (by omega) (by omega)) hpin ?_
     have n1 : (((q + 1) + (sumN zU l[i].params : Nat) : Int) < 0) = False := by simp; omega
     try simp +decide only [e, h', hg, Xe, bne_self_eq_false, Int.natCast_nonneg, vI, fnC, fnM, w0, w1, w2, w3, n1, hpin, go_sem, reduceAdd, reduceMul]
     have e5 : k + (sumN fnN (l.take (i + 1)) : Nat) = (((((q + 1) + (sumN zU l[i].params : Nat)) + 1) + 1) + 1) := by omega
     refine ⟨i + 1, h', by omega, Ent.weak ?_ ?_ ?_ ?_⟩
     · simp +decide [subT, St.get, look, w64s (n := l.length) h' (by omega), vI, vB, e5]
     all_goals simp +decide [subB, zk, zj, look, vI]
   · have hil : i = l.length := by omega
     subst hil
     have e : ((l.length : Int) < (l.length : Int)) = False := by simp
     simp +decide only [e, vI, hpin, go_sem, reduceAdd, reduceMul]
def znm (x : ProgramD) : Nat := 0 + sumN yz x.nodes + sumN fnN x.fns
def znn (q : Int) (x : ProgramD) : ProgramD := ⟨yE q x.nodes, fnML (q + (sumN yz x.nodes : Nat)) x.fns⟩
def zdp : Int -> List ProgramD -> List ProgramD
 | _, [] => []
 | q, x :: r => znn q x :: zdp (q + (znm x : Nat)) r
theorem Xa : ∀ (q : Int) (l : List ProgramD), (zdp q l).length = l.length
 | _, [] => rfl
 | q, x :: r => by simp [zdp, Xa]
attribute [go_sem] Xa
theorem Yy (x : ProgramD) (k : Int) (h0 : 0 <= k) (h1 : k + x.nodes.length + x.fns.length + (sumN yz x.nodes : Nat) + (sumN fnN x.fns : Nat) < 4611686018427387904) :
   SoundAt Tryz.prog 15 (fun uf => zp 0 [.ro (.agg [.sc (uf 2000), .sc (uf 2001)]), .ro (.sc (.int .i64 k))]) [(2000, .row 83 (rows (zg false) (x.nodes))), (2001, .row 104 (rows (fnC false) (x.fns)))]
     (fun rs st => rs = [(false, [cI ((k + (sumN yz x.nodes : Nat)) + (sumN fnN x.fns : Nat))])] /\ xK st.ob [(2000, .row 83 (rows (zg false) (yE k x.nodes))), (2001, .row 104 (rows (fnC false) (fnML (k + (sumN yz x.nodes : Nat)) x.fns)))]) := by
 refine yH (fn := Tryz.f15) (c := Tryz.f15.body.getD .skip) (res := [.tm 4]) (n := 14) zf (by kernel_rfl) (by rfl) (by kernel_rfl) (by rfl) (by rfl) (by simp [zp]) (fun uf ub C hpin hpin2 hfull => ?_)
 simp +decide only [Tryz.f15, hpin, hpin2, go_sem, reduceAdd, reduceMul]
 refine YF (zdK x.nodes k (by omega) (by omega)) hpin [(2000, 2000)] ⟨rfl, rfl, rfl⟩ (fun uf => ⟨rfl, rfl⟩) (fun uf => ?_) ?_
 · simp +decide only [hpin2, go_sem, reduceAdd, reduceMul]
 simp +decide only [hpin, hpin2, zn, go_sem, reduceAdd, reduceMul]
 refine YF (zfU x.fns (k + (sumN yz x.nodes : Nat)) (by omega) (by omega)) hpin [(2000, 2001)] ⟨rfl, rfl, rfl⟩ (fun uf => ⟨rfl, rfl⟩) (fun uf => ?_) ?_
 · simp +decide only [hpin2, go_sem, reduceAdd, reduceMul]
 simp +decide only [hpin, hpin2, zn, go_sem, reduceAdd, reduceMul]
def varN (x : VarD) : Nat := 3
def varM (q : Int) (x : VarD) : VarD := ⟨zcr q, (q + 1), ((q + 1) + 1)⟩
def zoy : Int -> List VarD -> List VarD
 | _, [] => []
 | q, x :: r => varM q x :: zoy (q + (varN x : Nat)) r
theorem zca : ∀ (q : Int) (l : List VarD), (zoy q l).length = l.length
 | _, [] => rfl
 | q, x :: r => by simp [zoy, zca]
attribute [go_sem] zca
def zpw (x : EffectD) : Nat := 2
def zpx (q : Int) (x : EffectD) : EffectD := ⟨zcr q, (q + 1)⟩
def zgo : Int -> List EffectD -> List EffectD
 | _, [] => []
 | q, x :: r => zpx q x :: zgo (q + (zpw x : Nat)) r
theorem XC : ∀ (q : Int) (l : List EffectD), (zgo q l).length = l.length
 | _, [] => rfl
 | q, x :: r => by simp [zgo, XC]
attribute [go_sem] XC
def sp1 (c : UInt8) : ByteArray := ⟨#[c]⟩
theorem zbI (c : UInt8) : (((sp1 c).size : Nat) : Int) = 1 := rfl
theorem i10 : ((1 : Int) == 0) = false := rfl
theorem im0 : ((-1 : Int) == 0) = false := rfl
theorem i11 : ((1 : Int) == 1) = true := rfl
theorem zin (c : UInt8) : (sp1 c).data.toList.getD (Int.toNat 0) 0 = c := rfl
theorem zhy (s : ByteArray) (c : UInt8) : zu Tryz.prog 250 [.ro (.sc (.string s)), .ro (.sc (.int .u8 (c.toNat : Int)))] (fun rs st => rs = [(false, [cI (Lib.indexByte s.data.toList c)])]) := by
 refine zo (fn := Tryz.f250) (c := Tryz.f250.body.getD .skip) (res := [.tm 4]) (n := 8) zf (by kernel_rfl) (by rfl) (by kernel_rfl) (by rfl) (by rfl) (by simp [zp]) (fun C hpin hfull => ?_)
 simp +decide only [Tryz.f250, hpin, go_sem, reduceAdd, reduceMul]
 refine zib (fn := Tryz.f254) (e := Extern.BytealgIndexByte.indexByte) (us := [.string s, .int .u8 (c.toNat : Int)]) (r := .int .i64 (Lib.indexByte s.data.toList c)) (by kernel_rfl) (by kernel_rfl) (by kernel_rfl) (by kernel_rfl) (by kernel_rfl) (fun w => by have := Lib.run_indexByteString (P := Tryz.prog) s (c.toNat : Int) w; simpa using this) rfl rfl ?_
 simp +decide only [hpin, go_sem, reduceAdd, reduceMul]
theorem zpe (c : UInt8) : Lib.indexByte (sp1 c).data.toList c = 0 := by simp [sp1, Lib.indexByte]
theorem zmp (s : ByteArray) (c : UInt8) : zu Tryz.prog 247 [.ro (.sc (.string s)), .ro (.sc (.string (sp1 c)))] (fun rs st => rs = [(false, [cI (Lib.indexByte s.data.toList c)])]) := by
 refine zo (fn := Tryz.f247) (c := Tryz.f247.body.getD .skip) (res := [.tm 4]) (n := 143) zf (by kernel_rfl) (by rfl) (by kernel_rfl) (by rfl) (by rfl) (by simp [zp]) (fun C hpin hfull => ?_)
 simp +decide only [Tryz.f247, zbI, zin, i10, i11, hpin, go_sem, reduceAdd, reduceMul]
 cases h : decide (sp1 c = s) with
 | true =>
   have h' := of_decide_eq_true h
   subst h'
   simp +decide only [hpin, go_sem, reduceAdd, reduceMul]
   rw [zpe]
 | false =>
   simp +decide only [zbI, zin, i10, i11, hpin, go_sem, reduceAdd, reduceMul]
   refine zd (zhy s c) hpin ?_
   simp +decide only [hpin, go_sem, reduceAdd, reduceMul]
theorem zhC (s : ByteArray) (c : UInt8) : zu Tryz.prog 236 [.ro (.sc (.string s)), .ro (.sc (.string (sp1 c)))] (fun rs st => rs = [(false, [cI (Lib.indexByte s.data.toList c)])]) := by
 refine zo (fn := Tryz.f236) (c := Tryz.f236.body.getD .skip) (res := [.tm 4]) (n := 8) zf (by kernel_rfl) (by rfl) (by kernel_rfl) (by rfl) (by rfl) (by simp [zp]) (fun C hpin hfull => ?_)
 simp +decide only [Tryz.f236, hpin, go_sem, reduceAdd, reduceMul]
 refine zd (zmp s c) hpin ?_
 simp +decide only [hpin, go_sem, reduceAdd, reduceMul]
theorem zhO (s : ByteArray) (c : UInt8) : zu Tryz.prog 235 [.ro (.sc (.string s)), .ro (.sc (.string (sp1 c)))] (fun rs st => rs = [(false, [cI ((s.data.toList.count c : Nat) : Int)])]) := by
 refine zo (fn := Tryz.f235) (c := Tryz.f235.body.getD .skip) (res := [.tm 4]) (n := 34) zf (by kernel_rfl) (by rfl) (by kernel_rfl) (by rfl) (by rfl) (by simp [zp]) (fun C hpin hfull => ?_)
 simp +decide only [Tryz.f235, zbI, zin, i10, i11, hpin, go_sem, reduceAdd, reduceMul]
 refine zib (fn := Tryz.f246) (e := Extern.BytealgCount.count) (us := [.string s, .int .u8 (c.toNat : Int)]) (r := .int .i64 ((s.data.toList.count c : Nat) : Int)) (by kernel_rfl) (by kernel_rfl) (by kernel_rfl) (by kernel_rfl) (by kernel_rfl) (fun w => by have := Lib.run_countString (P := Tryz.prog) s (c.toNat : Int) w; simpa [Lib.countByte] using this) rfl rfl ?_
 simp +decide only [hpin, go_sem, reduceAdd, reduceMul]
theorem zkr (s : ByteArray) : s.data.toList.length = s.size := by cases s; rfl
theorem znU (s : ByteArray) (m : Nat) : s.extract 0 m = zak (s.data.toList.take m) := by
 apply ByteArray.ext
 rw [ByteArray.data_extract]
 apply Array.toList_inj.1
 rw [Array.toList_extract, List.extract_eq_take_drop]
 simp [zak]
theorem zjV (s : ByteArray) (k : Nat) : (s.extract k s.size).data.toList = s.data.toList.drop k := by
 rw [ByteArray.data_extract, Array.toList_extract, List.extract_eq_take_drop, <- zkr, List.take_of_length_le (by simp)]
theorem znV (s : ByteArray) (k : Nat) : (s.extract k s.size).size = s.size - k := by simp
def parts (done : List (List UInt8)) (N : Nat) : List ByteArray := done.map zak ++ List.replicate (N - done.length) ⟨#[]⟩
theorem zcd {done : List (List UInt8)} {N : Nat} (h : done.length <= N) : (parts done N).length = N := by simp [parts]; omega
theorem zhf {done : List (List UInt8)} {N : Nat} (h : done.length < N) (x : List UInt8) : (parts done N).set done.length (zak x) = parts (done ++ [x]) N := by
 unfold parts
 rw [List.set_append_right _ _ (by simp), List.length_map, Nat.sub_self]
 obtain ⟨m, hm⟩ : ∃ m, N - done.length = m + 1 := ⟨N - done.length - 1, by omega⟩
 rw [hm, List.replicate_succ, List.set_cons_zero]
 have hm2 : N - (done ++ [x]).length = m := by simp; omega
 rw [hm2]
 simp only [List.map_append, List.map_cons, List.map_nil, List.append_assoc, List.cons_append, List.nil_append]
theorem zeJ (s : ByteArray) (c : UInt8) (hs : s.size <= 1048576) : zu Tryz.prog 218 [.ro (.sc (.string s)), .ro (.sc (.string (sp1 c))), .ro (.sc (.int .i64 0)), .ro (.sc (.int .i64 (-1)))] (fun rs st => rs = [(false, [.row false 9 (row1 cS (Xm s c))])]) := by
 refine zo (fn := Tryz.f218) (c := Tryz.f218.body.getD .skip) (res := [.tm 8]) (n := 66) zf (by kernel_rfl) (by rfl) (by kernel_rfl) (by rfl) (by rfl) (by simp [zp]) (fun C hpin hfull => ?_)
 have hc : s.data.toList.count c <= s.size := by rw [<- zkr]; exact List.count_le_length
 have w1 : IntKind.i64.wrap (((s.data.toList.count c : Nat) : Int) + 1) = ((s.data.toList.count c + 1 : Nat) : Int) := by rw [w64 (by omega) (by omega)]; omega
 have w2 : IntKind.i64.wrap (((s.size : Nat) : Int) + 1) = ((s.size + 1 : Nat) : Int) := by rw [w64 (by omega) (by omega)]; omega
 have e0 : ¬ sp1 c = (⟨#[]⟩ : ByteArray) := by intro h; have := congrArg ByteArray.size h; simp [sp1, ByteArray.size] at this
 simp +decide only [Tryz.f218, e0, im0, zbI, hpin, go_sem, reduceAdd, reduceMul]
 refine zd (zhO s c) hpin ?_
 have em : ((((s.size + 1 : Nat) : Int)) < ((s.data.toList.count c + 1 : Nat) : Int)) = False := eq_false (by omega)
 have w3 : IntKind.i64.wrap (((s.data.toList.count c + 1 : Nat) : Int) - 1) = ((s.data.toList.count c : Nat) : Int) := by rw [w64 (by omega) (by omega)]; omega
 simp +decide only [w1, w2, w3, em, e0, im0, zbI, hpin, go_sem, reduceAdd, reduceMul]
 refine ⟨by omega, by omega, by omega, ?_⟩
 let n0 := s.data.toList.count c
 refine Tri.loop (ι := List (List UInt8) × ByteArray) (fun q => Zp s.data.toList c = q.1 ++ Zp q.2.data.toList c /\ q.1.length + q.2.data.toList.count c = n0 /\ q.2.size <= 1048576) (fun q => ⟨66, [(0, vS q.2), (1, vS (sp1 c)), (2, vI 0), (3, vI n0), (8, .ref 8 [] 0), (9, .ref 9 [] (n0 + 1)), (10, vI q.1.length)], [(9, .row 9 (row1 cS (parts q.1 (n0 + 1)))), (8, .row 9 [])]⟩) (fun q => n0 - q.1.length) ([], s) ⟨by simp, by simp [n0], hs⟩ ?_ ?_
 · refine Ent.weak ?_ ?_ ?_ ?_ <;> simp +decide [subT, subB, zk, zj, zl, St.get, look, vI, vB, vS, cS, parts, row1, n0]
 · rintro ⟨done, cur⟩ ⟨hq1, hq2, hq3⟩
   simp only at hq1 hq2 hq3 |-
   refine ze zf _ ?_
   have hcc : cur.data.toList.count c <= cur.size := by rw [<- zkr]; exact List.count_le_length
   by_cases h : done.length < n0
   · have e : ((done.length : Int) < (n0 : Int)) = True := by simpa using h
     have hpl := zcd (done := done) (N := n0 + 1) (by omega)
     simp +decide only [e, hpl, vI, vS, hpin, go_sem, reduceAdd, reduceMul]
     refine zd (zhC cur c) hpin ?_
     have hm : 0 <= Lib.indexByte cur.data.toList c := by
       have h1 := Lib.indexByte_ge cur.data.toList c
       by_cases h2 : Lib.indexByte cur.data.toList c = -1
       · have h3 := YK cur.data.toList c
         rw [zda h2] at h3
         simp only [List.length_singleton] at h3
         omega
       · omega
     obtain ⟨g1, g2, g3⟩ := zcZ hm
     generalize hmm : Lib.indexByte cur.data.toList c = m at hm g1 g2 g3 |-
     have en : (m < 0) = False := by simpa using hm
     have hlt : m.toNat < cur.size := by rw [<- zkr]; exact g1
     have w4 : IntKind.i64.wrap (m + 0) = m := by rw [w64 (by omega) (by omega)]; omega
     have w5 : IntKind.i64.wrap (m + 1) = m + 1 := w64 (by omega) (by omega)
     have hi : done.length < (parts done (n0 + 1)).length := by rw [hpl]; omega
     simp +decide only [e, en, hpl, w4, w5, zbI, zq _ _ hi, vI, vS, hpin, go_sem, reduceAdd, reduceMul]
     have e5 := zcG cS (parts done (n0 + 1)) done.length (zak (cur.data.toList.take m.toNat))
     rw [zhf (by omega)] at e5
     have e6 : cur.extract (Int.toNat 0) m.toNat = zak (cur.data.toList.take m.toNat) := znU cur m.toNat
     have e7 : (m + 1).toNat = m.toNat + 1 := by omega
     simp only [cS] at e5
     rw [e6, e5]
     refine ⟨by omega, by omega, by omega, by omega, (done ++ [cur.data.toList.take m.toNat], cur.extract (m.toNat + 1) cur.size), ⟨?_, ?_, ?_⟩, ?_, Ent.weak ?_ ?_ ?_ ?_⟩
     · simp only [zjV]; rw [hq1, g2]; simp
     · simp only [zjV, List.length_append, List.length_singleton]; omega
     · simp only [znV]; omega
     · simp only [List.length_append, List.length_singleton]; omega
     · have w6 : IntKind.i64.wrap ((done.length : Int) + 1) = ((done.length + 1 : Nat) : Int) := by rw [w64 (by omega) (by omega)]; omega
       simp +decide [subT, St.get, look, vI, vS, w6, e7]
     · simp +decide [subB, look, cS]
     all_goals simp +decide [zk, zj, look, vI, vS]
   · have hd : done.length = n0 := by omega
     have e : ((done.length : Int) < (n0 : Int)) = False := by simp; omega
     have hpl := zcd (done := done) (N := n0 + 1) (by omega)
     have hi : done.length < (parts done (n0 + 1)).length := by rw [hpl]; omega
     have w6 : IntKind.i64.wrap ((done.length : Int) + 1) = ((done.length + 1 : Nat) : Int) := by rw [w64 (by omega) (by omega)]; omega
     have hx : Zp cur.data.toList c = [cur.data.toList] := by
       refine zda ?_
       have h1 := Lib.indexByte_ge cur.data.toList c
       by_cases h2 : 0 <= Lib.indexByte cur.data.toList c
       · have := (zcZ h2).2.2
         omega
       · omega
     have e5 := zcG cS (parts done (n0 + 1)) done.length (zak cur.data.toList)
     rw [zhf (by omega), zjh] at e5
     simp only [cS] at e5
     have e6 : parts (done ++ [cur.data.toList]) (n0 + 1) = Xm s c := by
       unfold Xm parts
       rw [hq1, hx]
       have : n0 + 1 - (done ++ [cur.data.toList]).length = 0 := by simp; omega
       rw [this]; simp
     rw [e6] at e5
     have e7 : (Xm s c).length = n0 + 1 := by unfold Xm; rw [List.length_map, YK]
     simp +decide only [e, hpl, zq _ _ hi, w6, e5, vI, vS, hpin, go_sem, reduceAdd, reduceMul]
     exact ⟨by omega, by omega, by omega, by omega⟩
theorem zim (s : ByteArray) (c : UInt8) (hs : s.size <= 1048576) : zu Tryz.prog 211 [.ro (.sc (.string s)), .ro (.sc (.string (sp1 c)))] (fun rs st => rs = [(false, [.row false 9 (row1 cS (Xm s c))])]) := by
 refine zo (fn := Tryz.f211) (c := Tryz.f211.body.getD .skip) (res := [.tm 4]) (n := 8) zf (by kernel_rfl) (by rfl) (by kernel_rfl) (by rfl) (by rfl) (by simp [zp]) (fun C hpin hfull => ?_)
 simp +decide only [Tryz.f211, hpin, go_sem, reduceAdd, reduceMul]
 refine zd (zeJ s c hs) hpin ?_
 simp +decide only [hpin, go_sem, reduceAdd, reduceMul]
def inI (n lo hi : Int) : Bool := decide (lo <= n) && decide (n <= hi)
theorem in' (n lo hi : Int) : zu Tryz.prog 40 [.ro (.sc (.int .i64 n)), .ro (.sc (.int .i64 lo)), .ro (.sc (.int .i64 hi))] (fun rs st => rs = [(false, [cB (inI n lo hi)])]) := znK n lo hi
theorem xv (n lo hi : Int) : zu Tryz.prog 35 [.ro (.sc (.int .i64 n)), .ro (.sc (.int .i64 lo)), .ro (.sc (.int .i64 hi))] (fun rs st => rs = [(false, [cB (inI n lo hi)])]) := ziG n lo hi
def letB (n : Int) : Bool := decide (97 <= n) && decide (n <= 122)
theorem zag (n : Int) : zu Tryz.prog 143 [.ro (.sc (.int .u8 n))] (fun rs st => rs = [(false, [cB (letB n)])]) := by
 refine zo (fn := Tryz.f143) (c := Tryz.f143.body.getD .skip) (res := [.tm 2]) (n := 9) zf (by kernel_rfl) (by rfl) (by kernel_rfl) (by rfl) (by rfl) (by simp [zp]) (fun C hpin hfull => ?_)
 simp +decide only [Tryz.f143, hpin, go_sem, reduceAdd, reduceMul]
 by_cases h : 97 <= n <;> simp [h, letB]
theorem Xy (n : Int) : zu Tryz.prog 130 [.ro (.sc (.int .u8 n))] (fun rs st => rs = [(false, [cB (letB n)])]) := by
 refine zo (fn := Tryz.f130) (c := Tryz.f130.body.getD .skip) (res := [.tm 2]) (n := 9) zf (by kernel_rfl) (by rfl) (by kernel_rfl) (by rfl) (by rfl) (by simp [zp]) (fun C hpin hfull => ?_)
 simp +decide only [Tryz.f130, hpin, go_sem, reduceAdd, reduceMul]
 by_cases h : 97 <= n <;> simp [h, letB]
def figB (n : Int) : Bool := decide (48 <= n) && decide (n <= 57)
theorem zeH (n : Int) : zu Tryz.prog 144 [.ro (.sc (.int .u8 n))] (fun rs st => rs = [(false, [cB (figB n)])]) := by
 refine zo (fn := Tryz.f144) (c := Tryz.f144.body.getD .skip) (res := [.tm 2]) (n := 9) zf (by kernel_rfl) (by rfl) (by kernel_rfl) (by rfl) (by rfl) (by simp [zp]) (fun C hpin hfull => ?_)
 simp +decide only [Tryz.f144, hpin, go_sem, reduceAdd, reduceMul]
 by_cases h : 48 <= n <;> simp [h, figB]
theorem zdP (n : Int) : zu Tryz.prog 132 [.ro (.sc (.int .u8 n))] (fun rs st => rs = [(false, [cB (figB n)])]) := by
 refine zo (fn := Tryz.f132) (c := Tryz.f132.body.getD .skip) (res := [.tm 2]) (n := 9) zf (by kernel_rfl) (by rfl) (by kernel_rfl) (by rfl) (by rfl) (by simp [zp]) (fun C hpin hfull => ?_)
 simp +decide only [Tryz.f132, hpin, go_sem, reduceAdd, reduceMul]
 by_cases h : 48 <= n <;> simp [h, figB]
def keyList : List ByteArray := [⟨#[102, 110]⟩, ⟨#[108, 101, 116]⟩, ⟨#[105, 102]⟩, ⟨#[101, 108, 115, 101]⟩, ⟨#[119, 104, 105, 108, 101]⟩, ⟨#[112, 114, 105, 110, 116]⟩, ⟨#[100, 111]⟩, ⟨#[110, 101, 119]⟩, ⟨#[99, 108, 111, 110, 101]⟩, ⟨#[109, 117, 116]⟩, ⟨#[105, 110, 112, 117, 116]⟩, ⟨#[105, 110, 116]⟩, ⟨#[98, 111, 120]⟩, ⟨#[114, 101, 116]⟩]
def ziJ : ByteArray := ⟨#[102, 110, 32, 108, 101, 116, 32, 105, 102, 32, 101, 108, 115, 101, 32, 119, 104, 105, 108, 101, 32, 112, 114, 105, 110, 116, 32, 100, 111, 32, 110, 101, 119, 32, 99, 108, 111, 110, 101, 32, 109, 117, 116, 32, 105, 110, 112, 117, 116, 32, 105, 110, 116, 32, 98, 111, 120, 32, 114, 101, 116]⟩
theorem zga : Xm ziJ 32 = keyList := by kernel_rfl
def yD (l : List ByteArray) (s : ByteArray) : Bool := l.any fun w => decide (w = s)
theorem XX {l : List ByteArray} {s : ByteArray} {i : Nat} (h : i < l.length) : yD (l.take (i + 1)) s = (yD (l.take i) s || decide (l[i] = s)) := by
 unfold yD
 rw [List.take_succ_eq_append_getElem h, List.any_append]; simp
theorem XW {l : List ByteArray} {s : ByteArray} {i : Nat} (h : i < l.length) (he : decide (l[i] = s) = true) : yD l s = true := by
 unfold yD
 rw [List.any_eq_true]
 exact ⟨l[i], List.getElem_mem h, he⟩
theorem ziz (s t : ByteArray) (ht : t.size <= 1048576) : zu Tryz.prog 187 [.ro (.sc (.string s)), .ro (.sc (.string t))] (fun rs st => rs = [(false, [cB (yD (Xm t 32) s)])]) := by
 refine zo (fn := Tryz.f187) (c := Tryz.f187.body.getD .skip) (res := [.tm 4]) (n := 18) zf (by kernel_rfl) (by rfl) (by kernel_rfl) (by rfl) (by rfl) (by simp [zp]) (fun C hpin hfull => ?_)
 have hl : (Xm t 32).length <= 1048577 := by
   unfold Xm; rw [List.length_map, YK]
   have : t.data.toList.count 32 <= t.size := by rw [<- zkr]; exact List.count_le_length
   omega
 simp +decide only [Tryz.f187, hpin, go_sem, reduceAdd, reduceMul]
 refine zd (zim t 32 ht) hpin ?_
 simp +decide only [sp1, hpin, go_sem, reduceAdd, reduceMul]
 generalize Xm t 32 = l at hl |-
 refine Tri.loop (ι := Nat) (fun i => i <= l.length /\ yD (l.take i) s = false) (fun i => ⟨18, [(0, vS s), (4, vB false), (8, .ref 3008 [] l.length), (9, vI l.length), (10, vI i)], [(3008, .row 9 (row1 cS l))]⟩) (fun i => l.length - i) 0 (by simp [yD]) ?_ ?_
 · refine Ent.weak ?_ ?_ ?_ ?_ <;> simp +decide [subT, subB, zk, zj, zl, St.get, look, vI, vB, vS, cS]
 · rintro i ⟨hi, hn⟩
   refine ze zf _ ?_
   by_cases h : i < l.length
   · have e : ((i : Int) < (l.length : Int)) = True := by simp [h]
     simp +decide only [e, zq _ _ h, zaS _ _ h, Int.natCast_nonneg, vI, vB, vS, hpin, go_sem, reduceAdd, reduceMul]
     cases hq : decide (l[i] = s) with
     | true =>
       simp +decide only [vI, vB, vS, XW h hq, hpin, go_sem, reduceAdd, reduceMul]
     | false =>
       simp +decide only [vI, vB, vS, hpin, go_sem, reduceAdd, reduceMul]
       refine ⟨i + 1, ⟨h, by rw [XX h, hn, hq]; rfl⟩, by omega, Ent.weak ?_ ?_ ?_ ?_⟩
       all_goals simp +decide [subT, subB, zk, zj, St.get, look, w64s (n := l.length) h (by omega), vI, vB, vS, cS]
   · have hil : i = l.length := by omega
     subst hil
     have e : ((l.length : Int) < (l.length : Int)) = False := by simp
     rw [List.take_length] at hn
     simp +decide only [e, hn, vI, vB, vS, hpin, go_sem, reduceAdd, reduceMul]
theorem zeF (s : ByteArray) : zu Tryz.prog 145 [.ro (.sc (.string s))] (fun rs st => rs = [(false, [cB (yD keyList s)])]) := by
 refine zo (fn := Tryz.f145) (c := Tryz.f145.body.getD .skip) (res := [.tm 2]) (n := 5) zf (by kernel_rfl) (by rfl) (by kernel_rfl) (by rfl) (by rfl) (by simp [zp]) (fun C hpin hfull => ?_)
 simp +decide only [Tryz.f145, hpin, go_sem, reduceAdd, reduceMul]
 have := ziz s ziJ (by decide)
 rw [zga] at this
 refine zd this hpin ?_
 simp +decide only [ziJ, hpin, go_sem, reduceAdd, reduceMul]
theorem zkQ : zu Tryz.prog 184 [] (fun rs st => rs = [(false, [.row false 9 (row1 cS keyList)])]) := by
 refine zo (fn := Tryz.f184) (c := Tryz.f184.body.getD .skip) (res := [.tm 0]) (n := 2) zf (by kernel_rfl) (by rfl) (by kernel_rfl) (by rfl) (by rfl) (by simp [zp]) (fun C hpin hfull => ?_)
 simp +decide only [Tryz.f184, hpin, go_sem, reduceAdd, reduceMul]
 rfl
theorem zeE (s : ByteArray) : zu Tryz.prog 131 [.ro (.sc (.string s))] (fun rs st => rs = [(false, [cB (yD keyList s)])]) := by
 refine zo (fn := Tryz.f131) (c := Tryz.f131.body.getD .skip) (res := [.tm 2]) (n := 18) zf (by kernel_rfl) (by rfl) (by kernel_rfl) (by rfl) (by rfl) (by simp [zp]) (fun C hpin hfull => ?_)
 simp +decide only [Tryz.f131, hpin, go_sem, reduceAdd, reduceMul]
 refine zd zkQ hpin ?_
 simp +decide only [hpin, go_sem, reduceAdd, reduceMul]
 have hl : keyList.length <= 14 := by decide
 generalize keyList = l at hl |-
 refine Tri.loop (ι := Nat) (fun i => i <= l.length /\ yD (l.take i) s = false) (fun i => ⟨18, [(0, vS s), (2, vB false), (3, .ref 3 [] l.length), (4, vI i)], [(3, .row 9 (row1 cS l))]⟩) (fun i => l.length - i) 0 (by simp [yD]) ?_ ?_
 · refine Ent.weak ?_ ?_ ?_ ?_ <;> simp +decide [subT, subB, zk, zj, zl, St.get, look, vI, vB, vS, cS]
 · rintro i ⟨hi, hn⟩
   refine ze zf _ ?_
   by_cases h : i < l.length
   · have e : ((i : Int) < (l.length : Int)) = True := by simp [h]
     simp +decide only [e, zq _ _ h, zaS _ _ h, Int.natCast_nonneg, vI, vB, vS, hpin, go_sem, reduceAdd, reduceMul]
     cases hq : decide (l[i] = s) with
     | true =>
       simp +decide only [vI, vB, vS, XW h hq, hpin, go_sem, reduceAdd, reduceMul]
     | false =>
       simp +decide only [vI, vB, vS, hpin, go_sem, reduceAdd, reduceMul]
       refine ⟨i + 1, ⟨h, by rw [XX h, hn, hq]; rfl⟩, by omega, Ent.weak ?_ ?_ ?_ ?_⟩
       all_goals simp +decide [subT, subB, zk, zj, St.get, look, w64s (n := l.length) h (by omega), vI, vB, vS, cS]
   · have hil : i = l.length := by omega
     subst hil
     have e : ((l.length : Int) < (l.length : Int)) = False := by simp
     rw [List.take_length] at hn
     simp +decide only [e, hn, vI, vB, vS, hpin, go_sem, reduceAdd, reduceMul]
def chB (n : Nat) : Bool := letB n || figB n
def XF (s : ByteArray) (i : Nat) : Bool := (s.data.toList.take i).all fun b => chB b.toNat
def Yx (s : ByteArray) : Bool := inI s.size 1 8 && (letB (((s.data.toList.getD (Int.toNat 0) 0).toNat : Nat) : Int) && (!yD keyList s && XF s s.size))
theorem ZN {s : ByteArray} {i : Nat} (h : i < s.size) : XF s (i + 1) = (XF s i && chB (s.data.toList.getD i 0).toNat) := by
 have h' : i < s.data.toList.length := by rw [zkr]; exact h
 unfold XF
 have e : s.data.toList.getD i 0 = s.data.toList[i] := by rw [List.getD_eq_getElem?_getD, List.getElem?_eq_getElem h']; rfl
 rw [List.take_succ_eq_append_getElem h', List.all_append, e]
 simp only [List.all_cons, List.all_nil, Bool.and_true]
theorem zem {s : ByteArray} {i : Nat} (h : i < s.size) (hc : XF s (i + 1) = false) : XF s s.size = false := by
 have h2 : s.data.toList.take s.size = s.data.toList.take (i + 1) ++ (s.data.toList.drop (i + 1)).take (s.size - (i + 1)) := by
   rw [<- List.take_add]; congr 1; omega
 unfold XF at hc |-
 rw [h2, List.all_append, hc]; rfl
theorem xL (s : ByteArray) : zu Tryz.prog 64 [.ro (.sc (.string s))] (fun rs st => rs = [(false, [cB (Yx s)])]) := by
 refine zo (fn := Tryz.f64) (c := Tryz.f64.body.getD .skip) (res := [.tm 2]) (n := 35) zf (by kernel_rfl) (by rfl) (by kernel_rfl) (by rfl) (by rfl) (by simp [zp]) (fun C hpin hfull => ?_)
 simp +decide only [Tryz.f64, hpin, go_sem, reduceAdd, reduceMul]
 refine zd (in' s.size 1 8) hpin ?_
 simp +decide only [hpin, go_sem, reduceAdd, reduceMul]
 unfold Yx
 cases h1 : inI s.size 1 8 with
 | false =>
   simp +decide only [hpin, go_sem, reduceAdd, reduceMul]
 | true =>
   have hs : 1 <= s.size /\ s.size <= 8 := by simp [inI] at h1; omega
   have e0 : ((0 : Int) < (s.size : Int)) = True := by simp; omega
   simp +decide only [e0, hpin, go_sem, reduceAdd, reduceMul]
   refine zd (zag (((s.data.toList.getD (Int.toNat 0) 0).toNat : Nat) : Int)) hpin ?_
   simp +decide only [hpin, go_sem, reduceAdd, reduceMul]
   cases h2 : letB (((s.data.toList.getD (Int.toNat 0) 0).toNat : Nat) : Int) with
   | false =>
     simp +decide only [hpin, go_sem, reduceAdd, reduceMul]
   | true =>
     simp +decide only [hpin, go_sem, reduceAdd, reduceMul]
     refine Tri.loop (ι := Nat) (fun i => i <= s.size /\ XF s i = true) (fun i => ⟨35, [(0, vS s), (2, vB false), (3, vI i)], []⟩) (fun i => s.size - i) 0 (by simp [XF]) ?_ ?_
     · refine Ent.weak ?_ ?_ ?_ ?_ <;> simp +decide [subT, subB, zk, zj, zl, St.get, look, vI, vB, vS, cS]
     · rintro i ⟨hi, hn⟩
       refine ze zf _ ?_
       by_cases h : i < s.size
       · have e : ((i : Int) < (s.size : Int)) = True := by simp [h]
         simp +decide only [e, Int.natCast_nonneg, vI, vB, vS, hpin, go_sem, reduceAdd, reduceMul]
         refine zd (zag (((s.data.toList.getD i 0).toNat : Nat) : Int)) hpin ?_
         simp +decide only [e, Int.natCast_nonneg, vI, vB, vS, hpin, go_sem, reduceAdd, reduceMul]
         cases hl : letB (((s.data.toList.getD i 0).toNat : Nat) : Int) with
         | true =>
           simp +decide only [vI, vB, vS, hpin, go_sem, reduceAdd, reduceMul]
           refine ⟨i + 1, ⟨h, by rw [ZN h, hn, chB, hl]; rfl⟩, by omega, Ent.weak ?_ ?_ ?_ ?_⟩
           all_goals simp +decide [subT, subB, zk, zj, St.get, look, w64s (n := s.size) h (by omega), vI, vB, vS, cS]
         | false =>
           simp +decide only [e, Int.natCast_nonneg, vI, vB, vS, hpin, go_sem, reduceAdd, reduceMul]
           refine zd (zeH (((s.data.toList.getD i 0).toNat : Nat) : Int)) hpin ?_
           simp +decide only [vI, vB, vS, hpin, go_sem, reduceAdd, reduceMul]
           cases hf : figB (((s.data.toList.getD i 0).toNat : Nat) : Int) with
           | true =>
             simp +decide only [vI, vB, vS, hpin, go_sem, reduceAdd, reduceMul]
             refine ⟨i + 1, ⟨h, by rw [ZN h, hn, chB, hl, hf]; rfl⟩, by omega, Ent.weak ?_ ?_ ?_ ?_⟩
             all_goals simp +decide [subT, subB, zk, zj, St.get, look, w64s (n := s.size) h (by omega), vI, vB, vS, cS]
           | false =>
             have hx := zem h (by rw [ZN h, hn, chB, hl, hf]; rfl)
             simp +decide only [hx, vI, vB, vS, hpin, go_sem, reduceAdd, reduceMul]
       · have hil : i = s.size := by omega
         subst hil
         have e : ((s.size : Int) < (s.size : Int)) = False := by simp
         simp +decide only [e, hn, vI, vB, vS, hpin, go_sem, reduceAdd, reduceMul]
         refine zd (zeF s) hpin ?_
         simp +decide only [vI, vB, vS, hpin, go_sem, reduceAdd, reduceMul]
         simp [hn]
theorem YR (s : ByteArray) : zu Tryz.prog 55 [.ro (.sc (.string s))] (fun rs st => rs = [(false, [cB (Yx s)])]) := by
 refine zo (fn := Tryz.f55) (c := Tryz.f55.body.getD .skip) (res := [.tm 2]) (n := 36) zf (by kernel_rfl) (by rfl) (by kernel_rfl) (by rfl) (by rfl) (by simp [zp]) (fun C hpin hfull => ?_)
 simp +decide only [Tryz.f55, hpin, go_sem, reduceAdd, reduceMul]
 refine zd (xv s.size 1 8) hpin ?_
 simp +decide only [hpin, go_sem, reduceAdd, reduceMul]
 unfold Yx
 cases h1 : inI s.size 1 8 with
 | false =>
   simp +decide only [hpin, go_sem, reduceAdd, reduceMul]
 | true =>
   have hs : 1 <= s.size /\ s.size <= 8 := by simp [inI] at h1; omega
   have e0 : ((0 : Int) < (s.size : Int)) = True := by simp; omega
   simp +decide only [e0, hpin, go_sem, reduceAdd, reduceMul]
   refine zd (Xy (((s.data.toList.getD (Int.toNat 0) 0).toNat : Nat) : Int)) hpin ?_
   simp +decide only [hpin, go_sem, reduceAdd, reduceMul]
   cases h2 : letB (((s.data.toList.getD (Int.toNat 0) 0).toNat : Nat) : Int) with
   | false =>
     simp +decide only [hpin, go_sem, reduceAdd, reduceMul]
   | true =>
     simp +decide only [hpin, go_sem, reduceAdd, reduceMul]
     refine zd (zeE s) hpin ?_
     simp +decide only [hpin, go_sem, reduceAdd, reduceMul]
     cases h3 : yD keyList s with
     | true => simp +decide only [hpin, go_sem, reduceAdd, reduceMul]
     | false =>
     simp +decide only [hpin, go_sem, reduceAdd, reduceMul]
     refine Tri.loop (ι := Nat) (fun i => i <= s.size /\ XF s i = true) (fun i => ⟨36, [(0, vS s), (2, vB false), (3, vI i)], []⟩) (fun i => s.size - i) 0 (by simp [XF]) ?_ ?_
     · refine Ent.weak ?_ ?_ ?_ ?_ <;> simp +decide [subT, subB, zk, zj, zl, St.get, look, vI, vB, vS, cS]
     · rintro i ⟨hi, hn⟩
       refine ze zf _ ?_
       by_cases h : i < s.size
       · have e : ((i : Int) < (s.size : Int)) = True := by simp [h]
         simp +decide only [e, Int.natCast_nonneg, vI, vB, vS, hpin, go_sem, reduceAdd, reduceMul]
         refine zd (Xy (((s.data.toList.getD i 0).toNat : Nat) : Int)) hpin ?_
         simp +decide only [e, Int.natCast_nonneg, vI, vB, vS, hpin, go_sem, reduceAdd, reduceMul]
         cases hl : letB (((s.data.toList.getD i 0).toNat : Nat) : Int) with
         | true =>
           simp +decide only [vI, vB, vS, hpin, go_sem, reduceAdd, reduceMul]
           refine ⟨i + 1, ⟨h, by rw [ZN h, hn, chB, hl]; rfl⟩, by omega, Ent.weak ?_ ?_ ?_ ?_⟩
           all_goals simp +decide [subT, subB, zk, zj, St.get, look, w64s (n := s.size) h (by omega), vI, vB, vS, cS]
         | false =>
           simp +decide only [e, Int.natCast_nonneg, vI, vB, vS, hpin, go_sem, reduceAdd, reduceMul]
           refine zd (zdP (((s.data.toList.getD i 0).toNat : Nat) : Int)) hpin ?_
           simp +decide only [vI, vB, vS, hpin, go_sem, reduceAdd, reduceMul]
           cases hf : figB (((s.data.toList.getD i 0).toNat : Nat) : Int) with
           | true =>
             simp +decide only [vI, vB, vS, hpin, go_sem, reduceAdd, reduceMul]
             refine ⟨i + 1, ⟨h, by rw [ZN h, hn, chB, hl, hf]; rfl⟩, by omega, Ent.weak ?_ ?_ ?_ ?_⟩
             all_goals simp +decide [subT, subB, zk, zj, St.get, look, w64s (n := s.size) h (by omega), vI, vB, vS, cS]
           | false =>
             have hx := zem h (by rw [ZN h, hn, chB, hl, hf]; rfl)
             simp +decide only [hx, vI, vB, vS, hpin, go_sem, reduceAdd, reduceMul]
       · have hil : i = s.size := by omega
         subst hil
         have e : ((s.size : Int) < (s.size : Int)) = False := by simp
         simp +decide only [e, hn, vI, vB, vS, hpin, go_sem, reduceAdd, reduceMul]
set_option maxHeartbeats 8000000
def xw (k : Int) : Bool := inI k 1 12
def YT (k : Int) : Bool := inI k 13 19
def yk (k : Int) : Bool := inI k 2 6 || inI k 12 15
def zG (k : Int) : Int × Int :=
 if k == 8 then (1, 1) else if k == 13 then (1, 1) else if k == 14 then (1, 1) else if k == 15 then (1, 1) else if k == 18 then (1, 1) else if k == 19 then (1, 1)
 else if k == 9 then (2, 2) else if k == 10 then (2, 2) else if k == 11 then (2, 2) else if k == 17 then (2, 2)
 else if k == 16 then (3, 3) else if k == 12 then (0, 3) else if k == 20 then (0, 12) else (0, 0)
def yC (kind i kid : Int) : Bool := if kind == 20 then YT kid else if (kind == 16 || kind == 17) && decide (0 < i) then kid == 20 else if kind == 19 then kid == 12 else xw kid
theorem Yk (k : Int) : zu Tryz.prog 146 [.ro (.sc (.int .i64 k))] (fun rs st => rs = [(false, [cB (xw k)])]) := by
 refine zo (fn := Tryz.f146) (c := Tryz.f146.body.getD .skip) (res := [.tm 2]) (n := 5) zf (by kernel_rfl) (by rfl) (by kernel_rfl) (by rfl) (by rfl) (by simp [zp]) (fun C hpin hfull => ?_)
 simp +decide only [Tryz.f146, hpin, go_sem, reduceAdd, reduceMul]
 refine zd (in' k 1 12) hpin ?_
 simp +decide only [xw, hpin, go_sem, reduceAdd, reduceMul]
theorem zge (k : Int) : zu Tryz.prog 237 [.ro (.sc (.int .i64 k))] (fun rs st => rs = [(false, [cB (YT k)])]) := by
 refine zo (fn := Tryz.f237) (c := Tryz.f237.body.getD .skip) (res := [.tm 2]) (n := 5) zf (by kernel_rfl) (by rfl) (by kernel_rfl) (by rfl) (by rfl) (by simp [zp]) (fun C hpin hfull => ?_)
 simp +decide only [Tryz.f237, hpin, go_sem, reduceAdd, reduceMul]
 refine zd (in' k 13 19) hpin ?_
 simp +decide only [YT, hpin, go_sem, reduceAdd, reduceMul]
theorem Yj (k : Int) : zu Tryz.prog 134 [.ro (.sc (.int .i64 k))] (fun rs st => rs = [(false, [cB (xw k)])]) := by
 refine zo (fn := Tryz.f134) (c := Tryz.f134.body.getD .skip) (res := [.tm 2]) (n := 5) zf (by kernel_rfl) (by rfl) (by kernel_rfl) (by rfl) (by rfl) (by simp [zp]) (fun C hpin hfull => ?_)
 simp +decide only [Tryz.f134, hpin, go_sem, reduceAdd, reduceMul]
 refine zd (xv k 1 12) hpin ?_
 simp +decide only [xw, hpin, go_sem, reduceAdd, reduceMul]
theorem zgd (k : Int) : zu Tryz.prog 233 [.ro (.sc (.int .i64 k))] (fun rs st => rs = [(false, [cB (YT k)])]) := by
 refine zo (fn := Tryz.f233) (c := Tryz.f233.body.getD .skip) (res := [.tm 2]) (n := 5) zf (by kernel_rfl) (by rfl) (by kernel_rfl) (by rfl) (by rfl) (by simp [zp]) (fun C hpin hfull => ?_)
 simp +decide only [Tryz.f233, hpin, go_sem, reduceAdd, reduceMul]
 refine zd (xv k 13 19) hpin ?_
 simp +decide only [YT, hpin, go_sem, reduceAdd, reduceMul]
theorem zah (k : Int) : zu Tryz.prog 221 [.ro (.sc (.int .i64 k))] (fun rs st => rs = [(false, [cB (yk k)])]) := by
 refine zo (fn := Tryz.f221) (c := Tryz.f221.body.getD .skip) (res := [.tm 2]) (n := 9) zf (by kernel_rfl) (by rfl) (by kernel_rfl) (by rfl) (by rfl) (by simp [zp]) (fun C hpin hfull => ?_)
 simp +decide only [Tryz.f221, hpin, go_sem, reduceAdd, reduceMul]
 refine zd (in' k 2 6) hpin ?_
 simp +decide only [hpin, go_sem, reduceAdd, reduceMul]
 unfold yk
 cases h1 : inI k 2 6 with
 | true => simp +decide only [Bool.true_or, hpin, go_sem, reduceAdd, reduceMul]
 | false =>
   simp +decide only [hpin, go_sem, reduceAdd, reduceMul]
   refine zd (in' k 12 15) hpin ?_
   simp +decide only [Bool.false_or, hpin, go_sem, reduceAdd, reduceMul]
theorem zdJ (k : Int) : zu Tryz.prog 216 [.ro (.sc (.int .i64 k))] (fun rs st => rs = [(false, [cB (yk k)])]) := by
 refine zo (fn := Tryz.f216) (c := Tryz.f216.body.getD .skip) (res := [.tm 2]) (n := 14) zf (by kernel_rfl) (by rfl) (by kernel_rfl) (by rfl) (by rfl) (by simp [zp]) (fun C hpin hfull => ?_)
 simp +decide only [Tryz.f216, hpin, go_sem, reduceAdd, reduceMul]
 cases h2 : k == 2 with
 | true =>
   have hk : k = 2 := by simpa using h2
   have hr : yk k = true := by rw [hk]; decide
   simp +decide only [h2, hr, hpin, go_sem, reduceAdd, reduceMul]
 | false =>
 simp +decide only [h2, hpin, go_sem, reduceAdd, reduceMul]
 cases h3 : k == 3 with
 | true =>
   have hk : k = 3 := by simpa using h3
   have hr : yk k = true := by rw [hk]; decide
   simp +decide only [h3, hr, hpin, go_sem, reduceAdd, reduceMul]
 | false =>
 simp +decide only [h3, hpin, go_sem, reduceAdd, reduceMul]
 cases h4 : k == 4 with
 | true =>
   have hk : k = 4 := by simpa using h4
   have hr : yk k = true := by rw [hk]; decide
   simp +decide only [h4, hr, hpin, go_sem, reduceAdd, reduceMul]
 | false =>
 simp +decide only [h4, hpin, go_sem, reduceAdd, reduceMul]
 cases h5 : k == 5 with
 | true =>
   have hk : k = 5 := by simpa using h5
   have hr : yk k = true := by rw [hk]; decide
   simp +decide only [h5, hr, hpin, go_sem, reduceAdd, reduceMul]
 | false =>
 simp +decide only [h5, hpin, go_sem, reduceAdd, reduceMul]
 cases h6 : k == 6 with
 | true =>
   have hk : k = 6 := by simpa using h6
   have hr : yk k = true := by rw [hk]; decide
   simp +decide only [h6, hr, hpin, go_sem, reduceAdd, reduceMul]
 | false =>
 simp +decide only [h6, hpin, go_sem, reduceAdd, reduceMul]
 cases h12 : k == 12 with
 | true =>
   have hk : k = 12 := by simpa using h12
   have hr : yk k = true := by rw [hk]; decide
   simp +decide only [h12, hr, hpin, go_sem, reduceAdd, reduceMul]
 | false =>
 simp +decide only [h12, hpin, go_sem, reduceAdd, reduceMul]
 cases h13 : k == 13 with
 | true =>
   have hk : k = 13 := by simpa using h13
   have hr : yk k = true := by rw [hk]; decide
   simp +decide only [h13, hr, hpin, go_sem, reduceAdd, reduceMul]
 | false =>
 simp +decide only [h13, hpin, go_sem, reduceAdd, reduceMul]
 cases h14 : k == 14 with
 | true =>
   have hk : k = 14 := by simpa using h14
   have hr : yk k = true := by rw [hk]; decide
   simp +decide only [h14, hr, hpin, go_sem, reduceAdd, reduceMul]
 | false =>
 simp +decide only [h14, hpin, go_sem, reduceAdd, reduceMul]
 cases h15 : k == 15 with
 | true =>
   have hk : k = 15 := by simpa using h15
   have hr : yk k = true := by rw [hk]; decide
   simp +decide only [h15, hr, hpin, go_sem, reduceAdd, reduceMul]
 | false =>
 simp +decide only [h15, hpin, go_sem, reduceAdd, reduceMul]
 have hr : yk k = false := by simp at h2 h3 h4 h5 h6 h12 h13 h14 h15; simp [yk, inI]; omega
 simp +decide only [hr, hpin, go_sem, reduceAdd, reduceMul]
theorem zgP (k : Int) : zu Tryz.prog 219 [.ro (.sc (.int .i64 k))] (fun rs st => rs = [(false, [cI (zG k).1]), (false, [cI (zG k).2])]) := by
 refine zo (fn := Tryz.f219) (c := Tryz.f219.body.getD .skip) (res := [.tm 2, .tm 3]) (n := 23) zf (by kernel_rfl) (by rfl) (by kernel_rfl) (by rfl) (by rfl) (by simp [zp]) (fun C hpin hfull => ?_)
 simp +decide only [Tryz.f219, hpin, go_sem, reduceAdd, reduceMul]
 cases h8 : k == 8 with
 | true =>
   have hk : k = 8 := by simpa using h8
   have hr : zG k = (1, 1) := by rw [hk]; decide
   simp +decide only [h8, hr, hpin, go_sem, reduceAdd, reduceMul]
 | false =>
 simp +decide only [h8, hpin, go_sem, reduceAdd, reduceMul]
 cases h13 : k == 13 with
 | true =>
   have hk : k = 13 := by simpa using h13
   have hr : zG k = (1, 1) := by rw [hk]; decide
   simp +decide only [h13, hr, hpin, go_sem, reduceAdd, reduceMul]
 | false =>
 simp +decide only [h13, hpin, go_sem, reduceAdd, reduceMul]
 cases h14 : k == 14 with
 | true =>
   have hk : k = 14 := by simpa using h14
   have hr : zG k = (1, 1) := by rw [hk]; decide
   simp +decide only [h14, hr, hpin, go_sem, reduceAdd, reduceMul]
 | false =>
 simp +decide only [h14, hpin, go_sem, reduceAdd, reduceMul]
 cases h15 : k == 15 with
 | true =>
   have hk : k = 15 := by simpa using h15
   have hr : zG k = (1, 1) := by rw [hk]; decide
   simp +decide only [h15, hr, hpin, go_sem, reduceAdd, reduceMul]
 | false =>
 simp +decide only [h15, hpin, go_sem, reduceAdd, reduceMul]
 cases h18 : k == 18 with
 | true =>
   have hk : k = 18 := by simpa using h18
   have hr : zG k = (1, 1) := by rw [hk]; decide
   simp +decide only [h18, hr, hpin, go_sem, reduceAdd, reduceMul]
 | false =>
 simp +decide only [h18, hpin, go_sem, reduceAdd, reduceMul]
 cases h19 : k == 19 with
 | true =>
   have hk : k = 19 := by simpa using h19
   have hr : zG k = (1, 1) := by rw [hk]; decide
   simp +decide only [h19, hr, hpin, go_sem, reduceAdd, reduceMul]
 | false =>
 simp +decide only [h19, hpin, go_sem, reduceAdd, reduceMul]
 cases h9 : k == 9 with
 | true =>
   have hk : k = 9 := by simpa using h9
   have hr : zG k = (2, 2) := by rw [hk]; decide
   simp +decide only [h9, hr, hpin, go_sem, reduceAdd, reduceMul]
 | false =>
 simp +decide only [h9, hpin, go_sem, reduceAdd, reduceMul]
 cases h10 : k == 10 with
 | true =>
   have hk : k = 10 := by simpa using h10
   have hr : zG k = (2, 2) := by rw [hk]; decide
   simp +decide only [h10, hr, hpin, go_sem, reduceAdd, reduceMul]
 | false =>
 simp +decide only [h10, hpin, go_sem, reduceAdd, reduceMul]
 cases h11 : k == 11 with
 | true =>
   have hk : k = 11 := by simpa using h11
   have hr : zG k = (2, 2) := by rw [hk]; decide
   simp +decide only [h11, hr, hpin, go_sem, reduceAdd, reduceMul]
 | false =>
 simp +decide only [h11, hpin, go_sem, reduceAdd, reduceMul]
 cases h17 : k == 17 with
 | true =>
   have hk : k = 17 := by simpa using h17
   have hr : zG k = (2, 2) := by rw [hk]; decide
   simp +decide only [h17, hr, hpin, go_sem, reduceAdd, reduceMul]
 | false =>
 simp +decide only [h17, hpin, go_sem, reduceAdd, reduceMul]
 cases h16 : k == 16 with
 | true =>
   have hk : k = 16 := by simpa using h16
   have hr : zG k = (3, 3) := by rw [hk]; decide
   simp +decide only [h16, hr, hpin, go_sem, reduceAdd, reduceMul]
 | false =>
 simp +decide only [h16, hpin, go_sem, reduceAdd, reduceMul]
 cases h12 : k == 12 with
 | true =>
   have hk : k = 12 := by simpa using h12
   have hr : zG k = (0, 3) := by rw [hk]; decide
   simp +decide only [h12, hr, hpin, go_sem, reduceAdd, reduceMul]
 | false =>
 simp +decide only [h12, hpin, go_sem, reduceAdd, reduceMul]
 cases h20 : k == 20 with
 | true =>
   have hk : k = 20 := by simpa using h20
   have hr : zG k = (0, 12) := by rw [hk]; decide
   simp +decide only [h20, hr, hpin, go_sem, reduceAdd, reduceMul]
 | false =>
 simp +decide only [h20, hpin, go_sem, reduceAdd, reduceMul]
 have hr : zG k = (0, 0) := by simp only [zG, h8, h13, h14, h15, h18, h19, h9, h10, h11, h17, h16, h12, h20, Bool.false_eq_true, if_false]
 simp +decide only [hr, hpin, go_sem, reduceAdd, reduceMul]
theorem zgO (k : Int) : zu Tryz.prog 215 [.ro (.sc (.int .i64 k))] (fun rs st => rs = [(false, [cI (zG k).1]), (false, [cI (zG k).2])]) := by
 refine zo (fn := Tryz.f215) (c := Tryz.f215.body.getD .skip) (res := [.tm 2, .tm 3]) (n := 23) zf (by kernel_rfl) (by rfl) (by kernel_rfl) (by rfl) (by rfl) (by simp [zp]) (fun C hpin hfull => ?_)
 simp +decide only [Tryz.f215, hpin, go_sem, reduceAdd, reduceMul]
 cases h8 : k == 8 with
 | true =>
   have hk : k = 8 := by simpa using h8
   have hr : zG k = (1, 1) := by rw [hk]; decide
   simp +decide only [h8, hr, hpin, go_sem, reduceAdd, reduceMul]
 | false =>
 simp +decide only [h8, hpin, go_sem, reduceAdd, reduceMul]
 cases h13 : k == 13 with
 | true =>
   have hk : k = 13 := by simpa using h13
   have hr : zG k = (1, 1) := by rw [hk]; decide
   simp +decide only [h13, hr, hpin, go_sem, reduceAdd, reduceMul]
 | false =>
 simp +decide only [h13, hpin, go_sem, reduceAdd, reduceMul]
 cases h14 : k == 14 with
 | true =>
   have hk : k = 14 := by simpa using h14
   have hr : zG k = (1, 1) := by rw [hk]; decide
   simp +decide only [h14, hr, hpin, go_sem, reduceAdd, reduceMul]
 | false =>
 simp +decide only [h14, hpin, go_sem, reduceAdd, reduceMul]
 cases h15 : k == 15 with
 | true =>
   have hk : k = 15 := by simpa using h15
   have hr : zG k = (1, 1) := by rw [hk]; decide
   simp +decide only [h15, hr, hpin, go_sem, reduceAdd, reduceMul]
 | false =>
 simp +decide only [h15, hpin, go_sem, reduceAdd, reduceMul]
 cases h18 : k == 18 with
 | true =>
   have hk : k = 18 := by simpa using h18
   have hr : zG k = (1, 1) := by rw [hk]; decide
   simp +decide only [h18, hr, hpin, go_sem, reduceAdd, reduceMul]
 | false =>
 simp +decide only [h18, hpin, go_sem, reduceAdd, reduceMul]
 cases h19 : k == 19 with
 | true =>
   have hk : k = 19 := by simpa using h19
   have hr : zG k = (1, 1) := by rw [hk]; decide
   simp +decide only [h19, hr, hpin, go_sem, reduceAdd, reduceMul]
 | false =>
 simp +decide only [h19, hpin, go_sem, reduceAdd, reduceMul]
 cases h9 : k == 9 with
 | true =>
   have hk : k = 9 := by simpa using h9
   have hr : zG k = (2, 2) := by rw [hk]; decide
   simp +decide only [h9, hr, hpin, go_sem, reduceAdd, reduceMul]
 | false =>
 simp +decide only [h9, hpin, go_sem, reduceAdd, reduceMul]
 cases h10 : k == 10 with
 | true =>
   have hk : k = 10 := by simpa using h10
   have hr : zG k = (2, 2) := by rw [hk]; decide
   simp +decide only [h10, hr, hpin, go_sem, reduceAdd, reduceMul]
 | false =>
 simp +decide only [h10, hpin, go_sem, reduceAdd, reduceMul]
 cases h11 : k == 11 with
 | true =>
   have hk : k = 11 := by simpa using h11
   have hr : zG k = (2, 2) := by rw [hk]; decide
   simp +decide only [h11, hr, hpin, go_sem, reduceAdd, reduceMul]
 | false =>
 simp +decide only [h11, hpin, go_sem, reduceAdd, reduceMul]
 cases h17 : k == 17 with
 | true =>
   have hk : k = 17 := by simpa using h17
   have hr : zG k = (2, 2) := by rw [hk]; decide
   simp +decide only [h17, hr, hpin, go_sem, reduceAdd, reduceMul]
 | false =>
 simp +decide only [h17, hpin, go_sem, reduceAdd, reduceMul]
 cases h12 : k == 12 with
 | true =>
   have hk : k = 12 := by simpa using h12
   have hr : zG k = (0, 3) := by rw [hk]; decide
   simp +decide only [h12, hr, hpin, go_sem, reduceAdd, reduceMul]
 | false =>
 simp +decide only [h12, hpin, go_sem, reduceAdd, reduceMul]
 cases h16 : k == 16 with
 | true =>
   have hk : k = 16 := by simpa using h16
   have hr : zG k = (3, 3) := by rw [hk]; decide
   simp +decide only [h16, hr, hpin, go_sem, reduceAdd, reduceMul]
 | false =>
 simp +decide only [h16, hpin, go_sem, reduceAdd, reduceMul]
 cases h20 : k == 20 with
 | true =>
   have hk : k = 20 := by simpa using h20
   have hr : zG k = (0, 12) := by rw [hk]; decide
   simp +decide only [h20, hr, hpin, go_sem, reduceAdd, reduceMul]
 | false =>
 simp +decide only [h20, hpin, go_sem, reduceAdd, reduceMul]
 have hr : zG k = (0, 0) := by simp only [zG, h8, h13, h14, h15, h18, h19, h9, h10, h11, h17, h12, h16, h20, Bool.false_eq_true, if_false]
 simp +decide only [hr, hpin, go_sem, reduceAdd, reduceMul]
theorem ziY (k i j : Int) : zu Tryz.prog 220 [.ro (.sc (.int .i64 k)), .ro (.sc (.int .i64 i)), .ro (.sc (.int .i64 j))] (fun rs st => rs = [(false, [cB (yC k i j)])]) := by
 refine zo (fn := Tryz.f220) (c := Tryz.f220.body.getD .skip) (res := [.tm 6]) (n := 32) zf (by kernel_rfl) (by rfl) (by kernel_rfl) (by rfl) (by rfl) (by simp [zp]) (fun C hpin hfull => ?_)
 simp +decide only [Tryz.f220, hpin, go_sem, reduceAdd, reduceMul]
 cases h20 : k == 20 with
 | true =>
   have hr : yC k i j = YT j := by simp [yC, h20]
   simp +decide only [h20, hpin, go_sem, reduceAdd, reduceMul]
   refine zd (zge j) hpin ?_
   simp +decide only [hr, hpin, go_sem, reduceAdd, reduceMul]
 | false =>
 simp +decide only [h20, hpin, go_sem, reduceAdd, reduceMul]
 cases h16 : k == 16 with
 | true =>
   simp +decide only [h16, hpin, go_sem, reduceAdd, reduceMul]
   by_cases hi : 0 < i
   · have hr : yC k i j = (j == 20) := by simp [yC, h20, h16, hi]
     have hi2 : (0 < i) = True := eq_true hi
     simp +decide only [hi2, hr, hpin, go_sem, reduceAdd, reduceMul]
   · have h19 : (k == 19) = false := by rw [show k = 16 by simpa using h16]; decide
     have hr : yC k i j = xw j := by simp [yC, h20, h16, h19, hi]
     have hi2 : (0 < i) = False := eq_false hi
     simp +decide only [hi2, h19, hpin, go_sem, reduceAdd, reduceMul]
     refine zd (Yk j) hpin ?_
     simp +decide only [hr, hpin, go_sem, reduceAdd, reduceMul]
 | false =>
 simp +decide only [h16, hpin, go_sem, reduceAdd, reduceMul]
 cases h17 : k == 17 with
 | true =>
   simp +decide only [h17, hpin, go_sem, reduceAdd, reduceMul]
   by_cases hi : 0 < i
   · have hr : yC k i j = (j == 20) := by simp [yC, h20, h17, hi]
     have hi2 : (0 < i) = True := eq_true hi
     simp +decide only [hi2, hr, hpin, go_sem, reduceAdd, reduceMul]
   · have h19 : (k == 19) = false := by rw [show k = 17 by simpa using h17]; decide
     have hr : yC k i j = xw j := by simp [yC, h20, h17, h19, hi]
     have hi2 : (0 < i) = False := eq_false hi
     simp +decide only [hi2, h19, hpin, go_sem, reduceAdd, reduceMul]
     refine zd (Yk j) hpin ?_
     simp +decide only [hr, hpin, go_sem, reduceAdd, reduceMul]
 | false =>
 simp +decide only [h17, hpin, go_sem, reduceAdd, reduceMul]
 cases h19 : k == 19 with
 | true =>
   have hr : yC k i j = (j == 12) := by simp [yC, h20, h16, h17, h19]
   simp +decide only [h19, hr, hpin, go_sem, reduceAdd, reduceMul]
 | false =>
 have hr : yC k i j = xw j := by simp [yC, h20, h16, h17, h19]
 simp +decide only [h19, hpin, go_sem, reduceAdd, reduceMul]
 refine zd (Yk j) hpin ?_
 simp +decide only [hr, hpin, go_sem, reduceAdd, reduceMul]
theorem ziX (k i j : Int) : zu Tryz.prog 217 [.ro (.sc (.int .i64 k)), .ro (.sc (.int .i64 i)), .ro (.sc (.int .i64 j))] (fun rs st => rs = [(false, [cB (yC k i j)])]) := by
 refine zo (fn := Tryz.f217) (c := Tryz.f217.body.getD .skip) (res := [.tm 6]) (n := 25) zf (by kernel_rfl) (by rfl) (by kernel_rfl) (by rfl) (by rfl) (by simp [zp]) (fun C hpin hfull => ?_)
 simp +decide only [Tryz.f217, hpin, go_sem, reduceAdd, reduceMul]
 cases h20 : k == 20 with
 | true =>
   have hr : yC k i j = YT j := by simp [yC, h20]
   simp +decide only [h20, hpin, go_sem, reduceAdd, reduceMul]
   refine zd (zgd j) hpin ?_
   simp +decide only [hr, hpin, go_sem, reduceAdd, reduceMul]
 | false =>
 simp +decide only [h20, hpin, go_sem, reduceAdd, reduceMul]
 cases h16 : k == 16 with
 | true =>
   simp +decide only [h16, hpin, go_sem, reduceAdd, reduceMul]
   by_cases hi : 0 < i
   · have hr : yC k i j = (j == 20) := by simp [yC, h20, h16, hi]
     have hi2 : (0 < i) = True := eq_true hi
     simp +decide only [hi2, hr, hpin, go_sem, reduceAdd, reduceMul]
   · have h19 : (k == 19) = false := by rw [show k = 16 by simpa using h16]; decide
     have hr : yC k i j = xw j := by simp [yC, h20, h16, h19, hi]
     have hi2 : (0 < i) = False := eq_false hi
     simp +decide only [hi2, h19, hpin, go_sem, reduceAdd, reduceMul]
     refine zd (Yj j) hpin ?_
     simp +decide only [hr, hpin, go_sem, reduceAdd, reduceMul]
 | false =>
 simp +decide only [h16, hpin, go_sem, reduceAdd, reduceMul]
 cases h17 : k == 17 with
 | true =>
   simp +decide only [h17, hpin, go_sem, reduceAdd, reduceMul]
   by_cases hi : 0 < i
   · have hr : yC k i j = (j == 20) := by simp [yC, h20, h17, hi]
     have hi2 : (0 < i) = True := eq_true hi
     simp +decide only [hi2, hr, hpin, go_sem, reduceAdd, reduceMul]
   · have h19 : (k == 19) = false := by rw [show k = 17 by simpa using h17]; decide
     have hr : yC k i j = xw j := by simp [yC, h20, h17, h19, hi]
     have hi2 : (0 < i) = False := eq_false hi
     simp +decide only [hi2, h19, hpin, go_sem, reduceAdd, reduceMul]
     refine zd (Yj j) hpin ?_
     simp +decide only [hr, hpin, go_sem, reduceAdd, reduceMul]
 | false =>
 simp +decide only [h17, hpin, go_sem, reduceAdd, reduceMul]
 cases h19 : k == 19 with
 | true =>
   have hr : yC k i j = (j == 12) := by simp [yC, h20, h16, h17, h19]
   simp +decide only [h19, hr, hpin, go_sem, reduceAdd, reduceMul]
 | false =>
 have hr : yC k i j = xw j := by simp [yC, h20, h16, h17, h19]
 simp +decide only [h19, hpin, go_sem, reduceAdd, reduceMul]
 refine zd (Yj j) hpin ?_
 simp +decide only [hr, hpin, go_sem, reduceAdd, reduceMul]
def nd0 : NodeD := ⟨0, 0, ⟨#[]⟩, []⟩
def nAt (nodes : List NodeD) (j : Int) : NodeD := nodes.getD j.toNat nd0
theorem xz {nodes : List NodeD} {j : Int} (h : j.toNat < nodes.length) : nAt nodes j = nodes[j.toNat] := by simp [nAt, List.getD, h]
theorem zF {nodes : List NodeD} {n : Nat} (h : n < nodes.length) : nAt nodes (n : Int) = nodes[n] := by simp [nAt, List.getD, h]
def kidB (nodes : List NodeD) (k : Int) (x : NodeD) (i : Nat) : Bool := inI (x.kids.getD i 0) 0 (k - 1) && (!(x.kids.take i).contains (x.kids.getD i 0) && yC x.kind i (nAt nodes (x.kids.getD i 0)).kind)
def zho (x : NodeD) : Bool := if x.kind == 1 then inI x.num 0 1000000000 else x.num == 0
def Yi (x : NodeD) : Bool := if yk x.kind then Yx x.name else decide (x.name = ⟨#[]⟩)
def zJ (f : Nat -> Bool) (n : Nat) : Bool := (List.range n).all f
theorem zN (f : Nat -> Bool) (n : Nat) : zJ f (n + 1) = (zJ f n && f n) := by simp [zJ, List.range_succ]
theorem zw {f : Nat -> Bool} {n i : Nat} (h : i < n) (hf : f i = false) : zJ f n = false := by
 unfold zJ; rw [List.all_eq_false]; exact ⟨i, List.mem_range.2 h, by simp [hf]⟩
theorem yn {f : Nat -> Bool} {n : Nat} : zJ f n = true ↔ ∀ i, i < n -> f i = true := by
 unfold zJ; rw [List.all_eq_true]; exact ⟨fun h i hi => h i (List.mem_range.2 hi), fun h i hi => h i (List.mem_range.1 hi)⟩
def Xc (nodes : List NodeD) (k : Int) (x : NodeD) : Bool := inI x.kind 1 20 && (inI x.kids.length (zG x.kind).1 (zG x.kind).2 && (zho x && (Yi x && zJ (kidB nodes k x) x.kids.length)))
def ZC (nodes : List NodeD) (k : Int) : Bool := inI k 0 (nodes.length - 1) && Xc nodes k (nAt nodes k)
theorem zx {n a b : Int} (h : inI n a b = true) : a <= n /\ n <= b := by simpa [inI] using h
theorem zrP {α : Type} (l : List α) : List.drop (Int.toNat 0) l = l := rfl
attribute [go_sem] zrP
theorem zqP (l : List Int) {i : Nat} (h : i <= l.length) : (row1 cI l).take i = row1 cI (l.take i) := by simp [row1, List.map_take]
theorem ziD (nodes : List NodeD) (k : Int) (hn : nodes.length <= 1048576) (hk : ∀ x ∈ nodes, x.kids.length <= 1048576) : zu Tryz.prog 212 [.ro (.imm 83 (rows (zg true) nodes)), .ro (.sc (.int .i64 k))] (fun rs st => rs = [(false, [cB (ZC nodes k)])]) := by
 refine zm (fn := Tryz.f212) (c := Tryz.f212.body.getD .skip) (res := [.tm 4]) (n := 101) zf (by kernel_rfl) (by rfl) (by kernel_rfl) (by rfl) (by rfl) (by simp [zp]) (fun uf ub C hpin hpin2 hfull => ?_)
 simp only [Tryz.f212, Option.getD_some]
 have w1 : IntKind.i64.wrap ((nodes.length : Int) - 1) = (nodes.length : Int) - 1 := w64 (by omega) (by omega)
 refine Tri.step zf ?_
 simp +decide only [hpin, go_sem, reduceAdd, reduceMul]
 refine Tri.step zf ?_
 simp +decide only [w1, hpin, go_sem, reduceAdd, reduceMul]
 refine zd (in' k 0 (nodes.length - 1)) hpin ?_
 simp +decide only [hpin, go_sem, reduceAdd, reduceMul]
 unfold ZC
 cases h0 : inI k 0 (nodes.length - 1) with
 | false => simp +decide only [hpin, go_sem, reduceAdd, reduceMul]
 | true =>
 have hr := zx h0
 obtain ⟨n, rfl⟩ : ∃ n : Nat, k = n := ⟨k.toNat, by omega⟩
 have hnl : n < nodes.length := by omega
 rw [zF hnl, Bool.true_and]
 have hkx := hk nodes[n] (List.getElem_mem hnl)
 generalize hx : nodes[n] = x at hkx
 have hc1 : ((n : Int) < (nodes.length : Int)) = True := eq_true (by omega)
 simp +decide only [hpin, go_sem, reduceAdd, reduceMul]
 refine Tri.step zf ?_
 simp +decide only [hc1, zh _ _ hnl, hx, Int.natCast_nonneg, zg, hpin, go_sem, reduceAdd, reduceMul]
 refine Tri.ent ?_ (Ent.frb hfull 5)
 refine Tri.step zf ?_
 simp +decide only [hpin, go_sem, reduceAdd, reduceMul]
 refine zd (zgP x.kind) hpin ?_
 simp +decide only [hpin, go_sem, reduceAdd, reduceMul]
 refine Tri.step zf ?_
 simp +decide only [hpin, go_sem, reduceAdd, reduceMul]
 refine zd (in' x.kind 1 20) hpin ?_
 simp +decide only [hpin, go_sem, reduceAdd, reduceMul]
 unfold Xc
 cases h1 : inI x.kind 1 20 with
 | false => simp +decide only [hpin, go_sem, reduceAdd, reduceMul]
 | true =>
 simp +decide only [hpin, go_sem, reduceAdd, reduceMul]
 refine zd (in' x.kids.length (zG x.kind).1 (zG x.kind).2) hpin ?_
 simp +decide only [hpin, go_sem, reduceAdd, reduceMul]
 cases h2 : inI x.kids.length (zG x.kind).1 (zG x.kind).2 with
 | false => simp +decide only [hpin, go_sem, reduceAdd, reduceMul]
 | true =>
 simp +decide only [hpin, go_sem, reduceAdd, reduceMul]
 refine Tri.step zf ?_
 simp +decide only [hpin, go_sem, reduceAdd, reduceMul]
 refine Tri.loop (ι := Nat) (fun i => i <= x.kids.length /\ zJ (kidB nodes n x) i = true) (fun i => ⟨101, [(0, .imm 83 (rows (zg true) nodes)), (1, vI n), (4, vB false), (5, .ip (zg true x) 0), (40, roI x.kids), (41, vI x.kids.length), (42, vI i)], []⟩) (fun i => x.kids.length - i) 0 ⟨by simp, rfl⟩ ?_ ?_
 · refine Ent.weak ?_ ?_ ?_ ?_ <;> simp +decide [subT, subB, zk, zj, zl, St.get, look, vI, vB, vS, cI, cS, cB, zg, roI]
 · rintro i ⟨hi, hq⟩
   refine ze zf _ ?_
   by_cases h' : i < x.kids.length
   · have e : ((i : Int) < (x.kids.length : Int)) = True := by simp [h']
     have w2 : IntKind.i64.wrap ((n : Int) - 1) = (n : Int) - 1 := w64 (by omega) (by omega)
     have hg : x.kids.getD i 0 = x.kids[i] := by simp [List.getD, h']
     simp +decide only [e, zq _ _ h', Int.natCast_nonneg, vB, vI, zg, hpin, go_sem, reduceAdd, reduceMul]
     refine Tri.sched zf [(0, true), (1, false), (2, false), (3, false), (4, false), (5, false), (6, true), (8, true), (10, true), (7, false), (9, false), (11, false), (12, false), (13, false), (14, true), (16, true), (17, true), (18, true), (19, true), (20, true), (15, true), (21, false), (22, false), (23, false), (24, false)] zV (by kernel_rfl) (fun C2 hC2 => ?_)
     have hp2 := zY hC2 hpin
     simp +decide only [w2, hp2, go_sem, reduceAdd, reduceMul]
     refine zd (in' x.kids[i] 0 (n - 1)) hp2 ?_
     simp +decide only [hp2, go_sem, reduceAdd, reduceMul]
     have hkb : kidB nodes n x i = (inI x.kids[i] 0 (n - 1) && (!(x.kids.take i).contains x.kids[i] && yC x.kind i (nAt nodes x.kids[i]).kind)) := by simp only [kidB, hg]
     cases h3 : inI x.kids[i] 0 (n - 1) with
     | false =>
       have hf : zJ (kidB nodes n x) x.kids.length = false := zw h' (by rw [hkb, h3]; rfl)
       simp +decide only [hf, hp2, go_sem, reduceAdd, reduceMul]
     | true =>
     have hr3 := zx h3
     have hkn : x.kids[i].toNat < nodes.length := by omega
     have z0 : (0 <= x.kids[i]) = True := eq_true hr3.1
     have z1 : (x.kids[i] < (nodes.length : Int)) = True := eq_true (by omega)
     have z2 : ((i : Int) <= (x.kids.length : Int)) = True := eq_true (by omega)
     rw [h3, Bool.true_and] at hkb
     simp +decide only [z0, z1, z2, h', zqP x.kids (Nat.le_of_lt h'), Int.natCast_nonneg, hp2, go_sem, reduceAdd, reduceMul]
     refine zd (Yl (x.kids.take i) x.kids[i] (by simp; omega)) hp2 ?_
     simp +decide only [z0, z1, z2, h', Int.natCast_nonneg, hp2, go_sem, reduceAdd, reduceMul]
     cases h4 : (x.kids.take i).contains x.kids[i] with
     | true =>
       have hf : zJ (kidB nodes n x) x.kids.length = false := zw h' (by rw [hkb, h4]; rfl)
       simp +decide only [hf, hp2, go_sem, reduceAdd, reduceMul]
     | false =>
     rw [h4, xz hkn] at hkb
     simp only [Bool.not_false, Bool.true_and] at hkb
     simp +decide only [z0, z1, z2, h', zh _ _ hkn, zg, Int.natCast_nonneg, hp2, go_sem, reduceAdd, reduceMul]
     refine zd (ziY x.kind i nodes[x.kids[i].toNat].kind) hp2 ?_
     simp +decide only [hp2, go_sem, reduceAdd, reduceMul]
     cases h5 : yC x.kind i nodes[x.kids[i].toNat].kind with
     | false =>
       have hf : zJ (kidB nodes n x) x.kids.length = false := zw h' (by rw [hkb, h5])
       simp +decide only [hf, hp2, go_sem, reduceAdd, reduceMul]
     | true =>
     simp +decide only [hp2, go_sem, reduceAdd, reduceMul]
     refine ⟨i + 1, ⟨h', by rw [zN, hq, hkb, h5]; rfl⟩, by omega, Ent.weak ?_ ?_ ?_ ?_⟩
     all_goals simp +decide [subT, subB, zk, zj, zl, St.get, look, vI, vB, vS, cI, cS, cB, zg, roI, w64s (n := x.kids.length) h' (by omega)]
   · have hil : i = x.kids.length := by omega
     subst hil
     have e : ((x.kids.length : Int) < (x.kids.length : Int)) = False := by simp
     rw [hq, Bool.and_true]
     simp +decide only [e, vB, vI, zg, hpin, go_sem, reduceAdd, reduceMul]
     refine Tri.step zf ?_
     simp +decide only [hpin, go_sem, reduceAdd, reduceMul]
     unfold zho
     cases h6 : x.kind == 1 with
     | true =>
       simp +decide only [h6, hpin, go_sem, reduceAdd, reduceMul]
       refine zd (in' x.num 0 1000000000) hpin ?_
       simp +decide only [hpin, go_sem, reduceAdd, reduceMul]
       cases h7 : inI x.num 0 1000000000 with
       | false => simp +decide only [bne, h6, hpin, go_sem, reduceAdd, reduceMul]
       | true =>
         simp +decide only [bne, h6, hpin, go_sem, reduceAdd, reduceMul]
         refine ze zf _ ?_
         simp +decide only [hpin, go_sem, reduceAdd, reduceMul]
         refine zd (zah x.kind) hpin ?_
         simp +decide only [hpin, go_sem, reduceAdd, reduceMul]
         cases h8 : yk x.kind with
         | true =>
           have hnm : Yi x = Yx x.name := by simp [Yi, h8]
           simp +decide only [hpin, go_sem, reduceAdd, reduceMul]
           refine zd (xL x.name) hpin ?_
           simp +decide only [hnm, hpin, go_sem, reduceAdd, reduceMul]
         | false =>
           have hnm : Yi x = decide (x.name = ⟨#[]⟩) := by simp [Yi, h8]
           simp +decide only [hnm, hpin, go_sem, reduceAdd, reduceMul]
     | false =>
       simp +decide only [h6, bne, hpin, go_sem, reduceAdd, reduceMul]
       cases h7 : x.num == 0 with
       | false => simp +decide only [h7, hpin, go_sem, reduceAdd, reduceMul]
       | true =>
         simp +decide only [h7, hpin, go_sem, reduceAdd, reduceMul]
         refine ze zf _ ?_
         simp +decide only [hpin, go_sem, reduceAdd, reduceMul]
         refine zd (zah x.kind) hpin ?_
         simp +decide only [hpin, go_sem, reduceAdd, reduceMul]
         cases h8 : yk x.kind with
         | true =>
           have hnm : Yi x = Yx x.name := by simp [Yi, h8]
           simp +decide only [hpin, go_sem, reduceAdd, reduceMul]
           refine zd (xL x.name) hpin ?_
           simp +decide only [hnm, hpin, go_sem, reduceAdd, reduceMul]
         | false =>
           have hnm : Yi x = decide (x.name = ⟨#[]⟩) := by simp [Yi, h8]
           simp +decide only [hnm, hpin, go_sem, reduceAdd, reduceMul]
theorem znv (x : NodeD) : (!inI x.num 0 1000000000 || (bne x.kind 1 && bne x.num 0)) = !zho x := by
 unfold zho
 cases h : x.kind == 1 with
 | true => simp [bne, h]
 | false =>
   simp only [bne, h, Bool.not_false, Bool.true_and, Bool.false_eq_true, if_false]
   cases h2 : x.num == 0 with
   | true => have : x.num = 0 := by simpa using h2
             rw [this]; decide
   | false => simp
theorem zmf : Yx ⟨#[]⟩ = false := by decide
theorem zny (x : NodeD) : Yi x = (yk x.kind == !decide (x.name = ⟨#[]⟩) && (decide (x.name = ⟨#[]⟩) || Yx x.name)) := by
 unfold Yi
 by_cases h : x.name = ⟨#[]⟩
 · rw [h]; cases yk x.kind <;> simp [zmf]
 · cases yk x.kind <;> simp [h]
theorem zeN (l : List Int) (i : Nat) (hi : i < l.length) : (l.take i).contains l[i] = !zJ (fun j => !(l.getD i 0 == l.getD j 0)) i := by
 rw [Bool.eq_iff_iff]
 simp only [List.contains_iff_mem, Bool.not_eq_true', List.mem_take_iff_getElem]
 constructor
 · rintro ⟨j, hj, he⟩
   have hj2 : j < i := by omega
   exact zw hj2 (by simp [List.getD, hi, show j < l.length by omega, he])
 · intro h
   unfold zJ at h
   rw [List.all_eq_false] at h
   obtain ⟨j, hj, hb⟩ := h
   have hj2 := List.mem_range.1 hj
   refine ⟨j, by omega, ?_⟩
   simp [List.getD, hi, show j < l.length by omega] at hb
   exact hb.symm
theorem ziC (nodes : List NodeD) (k : Int) (hn : nodes.length <= 1048576) (hk : ∀ x ∈ nodes, x.kids.length <= 1048576) : zu Tryz.prog 210 [.ro (.imm 83 (rows (zg true) nodes)), .ro (.sc (.int .i64 k))] (fun rs st => rs = [(false, [cB (ZC nodes k)])]) := by
 refine zm (fn := Tryz.f210) (c := Tryz.f210.body.getD .skip) (res := [.tm 4]) (n := 124) zf (by kernel_rfl) (by rfl) (by kernel_rfl) (by rfl) (by rfl) (by simp [zp]) (fun uf ub C hpin hpin2 hfull => ?_)
 simp only [Tryz.f210, Option.getD_some]
 have w1 : IntKind.i64.wrap ((nodes.length : Int) - 1) = (nodes.length : Int) - 1 := w64 (by omega) (by omega)
 refine Tri.step zf ?_
 simp +decide only [hpin, go_sem, reduceAdd, reduceMul]
 refine Tri.step zf ?_
 simp +decide only [w1, hpin, go_sem, reduceAdd, reduceMul]
 refine zd (xv k 0 (nodes.length - 1)) hpin ?_
 simp +decide only [hpin, go_sem, reduceAdd, reduceMul]
 unfold ZC
 cases h0 : inI k 0 (nodes.length - 1) with
 | false => simp +decide only [hpin, go_sem, reduceAdd, reduceMul]
 | true =>
 have hr := zx h0
 obtain ⟨n, rfl⟩ : ∃ n : Nat, k = n := ⟨k.toNat, by omega⟩
 have hnl : n < nodes.length := by omega
 rw [zF hnl, Bool.true_and]
 have hkx := hk nodes[n] (List.getElem_mem hnl)
 generalize hx : nodes[n] = x at hkx
 have hc1 : ((n : Int) < (nodes.length : Int)) = True := eq_true (by omega)
 simp +decide only [hc1, zh _ _ hnl, hx, Int.natCast_nonneg, zg, hpin, go_sem, reduceAdd, reduceMul]
 refine zd (xv x.kind 1 20) hpin ?_
 simp +decide only [hpin, go_sem, reduceAdd, reduceMul]
 unfold Xc
 cases h1 : inI x.kind 1 20 with
 | false => simp +decide only [hpin, go_sem, reduceAdd, reduceMul]
 | true =>
 simp +decide only [hpin, go_sem, reduceAdd, reduceMul]
 refine Tri.step zf ?_
 simp +decide only [hc1, zh _ _ hnl, hx, Int.natCast_nonneg, zg, hpin, go_sem, reduceAdd, reduceMul]
 refine Tri.ent ?_ (Ent.frb hfull 5)
 refine Tri.step zf ?_
 simp +decide only [hpin, go_sem, reduceAdd, reduceMul]
 refine zd (zgO x.kind) hpin ?_
 simp +decide only [hpin, go_sem, reduceAdd, reduceMul]
 have hno := znv x
 cases h2 : inI x.kids.length (zG x.kind).1 (zG x.kind).2 with
 | false =>
   refine Tri.step zf ?_
   simp +decide only [hpin, go_sem, reduceAdd, reduceMul]
   refine zd (xv x.kids.length (zG x.kind).1 (zG x.kind).2) hpin ?_
   simp +decide only [h2, hpin, go_sem, reduceAdd, reduceMul]
 | true =>
 rw [Bool.true_and]
 cases hq : zho x with
 | false =>
   rw [hq] at hno
   refine Tri.step zf ?_
   simp +decide only [hpin, go_sem, reduceAdd, reduceMul]
   refine zd (xv x.kids.length (zG x.kind).1 (zG x.kind).2) hpin ?_
   simp +decide only [h2, hpin, go_sem, reduceAdd, reduceMul]
   refine zd (xv x.num 0 1000000000) hpin ?_
   simp +decide only [hpin, go_sem, reduceAdd, reduceMul]
   cases h3 : inI x.num 0 1000000000 with
   | false => simp +decide only [hpin, go_sem, reduceAdd, reduceMul]
   | true =>
     rw [h3] at hno
     cases h4 : x.kind == 1 with
     | true => simp [bne, h4] at hno
     | false =>
       simp +decide only [h4, bne, hpin, go_sem, reduceAdd, reduceMul]
       cases h5 : x.num == 0 with
       | true => simp [bne, h5] at hno
       | false => simp +decide only [h5, hpin, go_sem, reduceAdd, reduceMul]
 | true =>
 rw [Bool.true_and]
 rw [hq] at hno
 refine Tri.stop zf ⟨124, [(0, .imm 83 (rows (zg true) nodes)), (1, vI n), (4, vB false), (5, .ip (zg true x) 0)], []⟩ ?_ ?_
 · simp +decide only [hpin, go_sem, reduceAdd, reduceMul]
   refine zd (xv x.kids.length (zG x.kind).1 (zG x.kind).2) hpin ?_
   simp +decide only [h2, hpin, go_sem, reduceAdd, reduceMul]
   refine zd (xv x.num 0 1000000000) hpin ?_
   simp +decide only [hpin, go_sem, reduceAdd, reduceMul]
   cases h3 : inI x.num 0 1000000000 with
   | false => simp [h3] at hno
   | true =>
     rw [h3] at hno
     simp +decide only [hpin, go_sem, reduceAdd, reduceMul]
     cases h4 : x.kind == 1 with
     | true =>
       simp +decide only [h4, bne, hpin, go_sem, reduceAdd, reduceMul]
       refine Ent.weak ?_ ?_ ?_ ?_ <;> simp +decide [subT, subB, zk, zj, zl, St.get, look, vI, vB, vS, cI, cS, cB, zg, roI]
     | false =>
       simp +decide only [h4, bne, hpin, go_sem, reduceAdd, reduceMul]
       cases h5 : x.num == 0 with
       | false => simp [bne, h4, h5] at hno
       | true =>
         simp +decide only [h5, hpin, go_sem, reduceAdd, reduceMul]
         refine Ent.weak ?_ ?_ ?_ ?_ <;> simp +decide [subT, subB, zk, zj, zl, St.get, look, vI, vB, vS, cI, cS, cB, zg, roI]
 have hna := zny x
 cases hq2 : Yi x with
 | false =>
   rw [hq2] at hna
   rw [Bool.false_and]
   refine Tri.step zf ?_
   simp +decide only [vB, vI, zg, hpin, go_sem, reduceAdd, reduceMul]
   refine Tri.sched zf [(0, true), (3, true), (1, true), (4, true), (5, true), (2, false), (6, false), (7, false), (8, false), (9, false), (10, false), (11, false), (12, false), (13, false), (14, false), (15, false), (16, false), (17, false)] zV (by kernel_rfl) (fun C2 hC2 => ?_)
   have hp2 := zY hC2 hpin
   simp +decide only [hp2, go_sem, reduceAdd, reduceMul]
   refine zd (zdJ x.kind) hp2 ?_
   simp +decide only [bne, hp2, go_sem, reduceAdd, reduceMul]
   cases h3 : yk x.kind == !decide (x.name = ⟨#[]⟩) with
   | false => simp +decide only [h3, hp2, go_sem, reduceAdd, reduceMul]
   | true =>
     rw [h3, Bool.true_and] at hna
     simp +decide only [h3, hp2, go_sem, reduceAdd, reduceMul]
     by_cases h4 : x.name = ⟨#[]⟩
     · simp [h4] at hna
     · have h40 : decide (x.name = ⟨#[]⟩) = false := decide_eq_false h4
       rw [h40, Bool.false_or] at hna
       simp +decide only [h40, hp2, go_sem, reduceAdd, reduceMul]
       refine zd (YR x.name) hp2 ?_
       simp +decide only [<- hna, hp2, go_sem, reduceAdd, reduceMul]
 | true =>
 rw [hq2] at hna
 rw [Bool.true_and]
 refine Tri.stop zf ⟨124, [(0, .imm 83 (rows (zg true) nodes)), (1, vI n), (4, vB false), (5, .ip (zg true x) 0)], []⟩ ?_ ?_
 · simp +decide only [vB, vI, zg, hpin, go_sem, reduceAdd, reduceMul]
   refine Tri.sched zf [(0, true), (3, true), (1, true), (4, true), (5, true), (2, false), (6, false), (7, false), (8, false), (9, false), (10, false), (11, false), (12, false), (13, false), (14, false), (15, false), (16, false), (17, false)] zV (by kernel_rfl) (fun C2 hC2 => ?_)
   have hp2 := zY hC2 hpin
   simp +decide only [hp2, go_sem, reduceAdd, reduceMul]
   refine zd (zdJ x.kind) hp2 ?_
   simp +decide only [bne, hp2, go_sem, reduceAdd, reduceMul]
   cases h3 : yk x.kind == !decide (x.name = ⟨#[]⟩) with
   | false => simp [h3] at hna
   | true =>
     rw [h3, Bool.true_and] at hna
     simp +decide only [h3, hp2, go_sem, reduceAdd, reduceMul]
     by_cases h4 : x.name = ⟨#[]⟩
     · simp +decide only [h4, hp2, go_sem, reduceAdd, reduceMul]
       refine Ent.weak ?_ ?_ ?_ ?_ <;> simp +decide [subT, subB, zk, zj, zl, St.get, look, vI, vB, vS, cI, cS, cB, zg, roI, h4]
     · have h40 : decide (x.name = ⟨#[]⟩) = false := decide_eq_false h4
       rw [h40, Bool.false_or] at hna
       simp +decide only [h40, hp2, go_sem, reduceAdd, reduceMul]
       refine zd (YR x.name) hp2 ?_
       simp +decide only [<- hna, hp2, go_sem, reduceAdd, reduceMul]
       refine Ent.weak ?_ ?_ ?_ ?_ <;> simp +decide [subT, subB, zk, zj, zl, St.get, look, vI, vB, vS, cI, cS, cB, zg, roI]
 refine ze zf _ ?_
 simp +decide only [vB, vI, zg, hpin, go_sem, reduceAdd, reduceMul]
 refine Tri.loop (ι := Nat) (fun i => i <= x.kids.length /\ zJ (kidB nodes n x) i = true) (fun i => ⟨124, [(0, .imm 83 (rows (zg true) nodes)), (1, vI n), (4, vB false), (5, .ip (zg true x) 0), (8, vI i)], []⟩) (fun i => x.kids.length - i) 0 ⟨by simp, rfl⟩ ?_ ?_
 · refine Ent.weak ?_ ?_ ?_ ?_ <;> simp +decide [subT, subB, zk, zj, zl, St.get, look, vI, vB, vS, cI, cS, cB, zg, roI]
 · rintro i ⟨hi, hq⟩
   refine ze zf _ ?_
   by_cases h' : i < x.kids.length
   · have e : ((i : Int) < (x.kids.length : Int)) = True := by simp [h']
     have w2 : IntKind.i64.wrap ((n : Int) - 1) = (n : Int) - 1 := w64 (by omega) (by omega)
     have hg : x.kids.getD i 0 = x.kids[i] := by simp [List.getD, h']
     have hkb : kidB nodes n x i = (inI x.kids[i] 0 (n - 1) && (!(x.kids.take i).contains x.kids[i] && yC x.kind i (nAt nodes x.kids[i]).kind)) := by simp only [kidB, hg]
     simp +decide only [e, zq _ _ h', Int.natCast_nonneg, vB, vI, zg, hpin, go_sem, reduceAdd, reduceMul]
     refine Tri.sched zf [(0, true), (2, true), (5, true), (6, true), (1, false), (3, false), (4, false), (7, false), (8, false), (9, false), (10, true), (12, true), (13, true), (14, true), (16, true), (11, true), (15, false), (17, false), (18, false), (19, false), (20, false), (21, false), (22, false), (23, false), (24, false)] zV (by kernel_rfl) (fun C2 hC2 => ?_)
     have hp2 := zY hC2 hpin
     simp +decide only [e, zq _ _ h', Int.natCast_nonneg, w2, hp2, go_sem, reduceAdd, reduceMul]
     refine zd (xv x.kids[i] 0 (n - 1)) hp2 ?_
     simp +decide only [hp2, go_sem, reduceAdd, reduceMul]
     cases h3 : inI x.kids[i] 0 (n - 1) with
     | false =>
       have hf : zJ (kidB nodes n x) x.kids.length = false := zw h' (by rw [hkb, h3]; rfl)
       simp +decide only [hf, hp2, go_sem, reduceAdd, reduceMul]
     | true =>
     have hr3 := zx h3
     have hkn : x.kids[i].toNat < nodes.length := by omega
     have z0 : (0 <= x.kids[i]) = True := eq_true hr3.1
     have z1 : (x.kids[i] < (nodes.length : Int)) = True := eq_true (by omega)
     rw [h3, Bool.true_and, xz hkn] at hkb
     simp +decide only [e, zq _ _ h', z0, z1, h', zh _ _ hkn, zg, Int.natCast_nonneg, hp2, go_sem, reduceAdd, reduceMul]
     refine zd (ziX x.kind i nodes[x.kids[i].toNat].kind) hp2 ?_
     simp +decide only [hp2, go_sem, reduceAdd, reduceMul]
     cases h5 : yC x.kind i nodes[x.kids[i].toNat].kind with
     | false =>
       have hf : zJ (kidB nodes n x) x.kids.length = false := zw h' (by rw [hkb, h5, Bool.and_false])
       simp +decide only [hf, hp2, go_sem, reduceAdd, reduceMul]
     | true =>
     rw [h5, Bool.and_true, zeN x.kids i h', Bool.not_not] at hkb
     simp +decide only [hp2, go_sem, reduceAdd, reduceMul]
     refine Tri.loop (ι := Nat) (fun j => j <= i /\ zJ (fun j => !(x.kids.getD i 0 == x.kids.getD j 0)) j = true) (fun j => ⟨124, [(0, .imm 83 (rows (zg true) nodes)), (1, vI n), (4, vB false), (5, .ip (zg true x) 0), (8, vI i), (9, vI j)], []⟩) (fun j => i - j) 0 ⟨by simp, rfl⟩ ?_ ?_
     · refine Ent.weak ?_ ?_ ?_ ?_ <;> simp +decide [subT, subB, zk, zj, zl, St.get, look, vI, vB, vS, cI, cS, cB, zg, roI]
     · rintro j ⟨hj, hq2⟩
       refine ze zf _ ?_
       by_cases hj' : j < i
       · have e2 : ((j : Int) < (i : Int)) = True := by simp [hj']
         have hjl : j < x.kids.length := by omega
         have e3 : ((j : Int) < (x.kids.length : Int)) = True := by simp [hjl]
         have hgj : x.kids.getD j 0 = x.kids[j] := by simp [List.getD, hjl]
         simp +decide only [e, e2, e3, zq _ _ h', zq _ _ hjl, Int.natCast_nonneg, vB, vI, zg, hpin, go_sem, reduceAdd, reduceMul]
         refine Tri.sched zf [(0, true), (2, true), (5, true), (7, true), (1, true), (3, true), (4, true), (6, false), (8, false), (9, false), (10, false)] zV (by kernel_rfl) (fun C2 hC2 => ?_)
         have hp2 := zY hC2 hpin
         simp +decide only [e, e2, e3, zq _ _ h', zq _ _ hjl, Int.natCast_nonneg, hp2, go_sem, reduceAdd, reduceMul]
         cases h6 : x.kids[i] == x.kids[j] with
         | true =>
           have hf : zJ (kidB nodes n x) x.kids.length = false := zw h' (by rw [hkb]; exact zw hj' (by simp only [hg, hgj, h6]; rfl))
           simp +decide only [hf, hp2, go_sem, reduceAdd, reduceMul]
         | false =>
           simp +decide only [hp2, go_sem, reduceAdd, reduceMul]
           refine ⟨j + 1, ⟨hj', by rw [zN, hq2]; simp only [hg, hgj, h6]; rfl⟩, by omega, Ent.weak ?_ ?_ ?_ ?_⟩
           all_goals simp +decide [subT, subB, zk, zj, zl, St.get, look, vI, vB, vS, cI, cS, cB, zg, roI, w64s (n := x.kids.length) hjl (by omega)]
       · have hil : j = i := by omega
         subst hil
         have e2 : ((j : Int) < (j : Int)) = False := by simp
         simp +decide only [e2, vB, vI, zg, hpin, go_sem, reduceAdd, reduceMul]
         refine ⟨j + 1, ⟨h', by rw [zN, hq, hkb, hq2]; rfl⟩, by omega, Ent.weak ?_ ?_ ?_ ?_⟩
         all_goals simp +decide [subT, subB, zk, zj, zl, St.get, look, vI, vB, vS, cI, cS, cB, zg, roI, w64s (n := x.kids.length) h' (by omega)]
   · have hil : i = x.kids.length := by omega
     subst hil
     have e : ((x.kids.length : Int) < (x.kids.length : Int)) = False := by simp
     rw [hq]
     simp +decide only [e, vB, vI, zg, hpin, go_sem, reduceAdd, reduceMul]
def yv (l : List Int) (d : Int) (kids : List Int) : Int := kids.foldl (fun d kid => max d (l.getD kid.toNat 0 + 1)) d
def zby (d : Int) : Int := if 10 < d then 0 else d
def zeM (nodes : List NodeD) (l : List Int) (n : Nat) : Int := if ZC nodes n && (n == 0 || !(l.getD (n - 1) 0 == 0)) then zby (yv l 1 (nAt nodes n).kids) else 0
def zC (nodes : List NodeD) : Nat -> List Int
 | 0 => []
 | n + 1 => zC nodes n ++ [zeM nodes (zC nodes n) n]
theorem yw (nodes : List NodeD) : ∀ n, (zC nodes n).length = n
 | 0 => rfl
 | n + 1 => by simp [zC, yw nodes n]
theorem YC (nodes : List NodeD) {n i : Nat} (h : i < n) : (zC nodes n).getD i 0 = zeM nodes (zC nodes i) i := by
 induction n with
 | zero => omega
 | succ n ih =>
   simp only [zC, List.getD]
   by_cases hi : i < n
   · rw [List.getElem?_append_left (by rw [yw]; exact hi)]
     exact ih hi
   · have : i = n := by omega
     subst this
     rw [List.getElem?_append_right (by rw [yw]; omega), yw, Nat.sub_self]; rfl
theorem zbx (l : List Int) : ∀ (kids : List Int) (d : Int), d <= yv l d kids
 | [], d => Int.le_refl d
 | k :: r, d => by
   simp only [yv, List.foldl_cons]
   exact Int.le_trans (Int.le_max_left _ _) (zbx l r _)
theorem zbV (l kids : List Int) (d : Int) {i : Nat} (h : i < kids.length) : yv l d (kids.take (i + 1)) = max (yv l d (kids.take i)) (l.getD kids[i].toNat 0 + 1) := by
 rw [List.take_succ_eq_append_getElem h]; simp only [yv, List.foldl_append, List.foldl_cons, List.foldl_nil]
theorem zaH (nodes : List NodeD) (l : List Int) (n : Nat) : 0 <= zeM nodes l n /\ zeM nodes l n <= 10 := by
 unfold zeM
 split
 · have := zbx l (nAt nodes n).kids 1
   unfold zby
   split <;> omega
 · omega
theorem zaG (nodes : List NodeD) (n i : Nat) : 0 <= (zC nodes n).getD i 0 /\ (zC nodes n).getD i 0 <= 10 := by
 by_cases h : i < n
 · rw [YC nodes h]; exact zaH _ _ _
 · simp [List.getD, List.getElem?_eq_none (show (zC nodes n).length <= i by rw [yw]; omega)]
def dAt (nodes : List NodeD) (n : Nat) : Int := zeM nodes (zC nodes n) n
theorem znY (nodes : List NodeD) (n : Nat) (h : dAt nodes (n + 1) ≠ 0) : dAt nodes n ≠ 0 := by
 intro h0
 apply h
 have : (zC nodes (n + 1)).getD n 0 = 0 := by rw [YC nodes (Nat.lt_succ_self n)]; exact h0
 unfold dAt zeM
 rw [Nat.add_sub_cancel, this]
 simp
theorem YX (nodes : List NodeD) : ∀ {n i : Nat}, i <= n -> dAt nodes n ≠ 0 -> dAt nodes i ≠ 0
 | 0, i, h, hd => by have : i = 0 := by omega
                     subst this; exact hd
 | n + 1, i, h, hd => by
   by_cases e : i = n + 1
   · subst e; exact hd
   · exact YX nodes (by omega) (znY nodes n hd)
def zQ (nodes : List NodeD) (k : Int) : Int := if inI k 0 (nodes.length - 1) then dAt nodes k.toNat else 0
theorem Zn (nodes : List NodeD) (n : Nat) (h : dAt nodes n ≠ 0) : ZC nodes n = true := by
 unfold dAt zeM at h
 cases hb : ZC nodes n with
 | true => rfl
 | false => simp [hb] at h
theorem zpA (nodes : List NodeD) (n : Nat) (hb : ZC nodes n = true) (hd : n = 0 \/ dAt nodes (n - 1) ≠ 0) : dAt nodes n = zby (yv (zC nodes n) 1 (nAt nodes n).kids) := by
 unfold dAt zeM
 have : (n == 0 || !((zC nodes n).getD (n - 1) 0 == 0)) = true := by
   rcases hd with hd | hd
   · simp [hd]
   · by_cases h0 : n = 0
     · simp [h0]
     · rw [YC nodes (show n - 1 < n by omega)]
       unfold dAt at hd
       simp [hd]
 rw [hb, this]; rfl
theorem zjL {nodes : List NodeD} {n : Nat} (hb : ZC nodes n = true) : ∃ h : n < nodes.length, ∀ i (hi : i < nodes[n].kids.length), 0 <= nodes[n].kids[i] /\ nodes[n].kids[i] < n /\ nodes[n].kids[i].toNat < n := by
 unfold ZC at hb
 simp only [Bool.and_eq_true] at hb
 have hr := zx hb.1
 have hl : n < nodes.length := by omega
 refine ⟨hl, fun i hi => ?_⟩
 have h2 := hb.2
 rw [zF hl] at h2
 unfold Xc at h2
 simp only [Bool.and_eq_true] at h2
 have h3 := yn.1 h2.2.2.2.2 i hi
 unfold kidB at h3
 simp only [Bool.and_eq_true] at h3
 have h4 := zx h3.1
 have hg : nodes[n].kids.getD i 0 = nodes[n].kids[i] := by simp [List.getD, hi]
 rw [hg] at h4
 omega
theorem maxI (a b : Int) : (if b > a then b else a) = max a b := by rw [Int.max_def]; split <;> split <;> omega
theorem yd {α : Type} (f : α -> D) (l : List α) {i : Nat} (h : i < l.length) : (row1 f l)[i]? = some [f l[i]] := by simp [row1, h]
def okD (nodes : List NodeD) (k : Int) : Bool := !(zQ nodes k == 0)
def okL (nodes : List NodeD) (k : Int) : List Int := if okD nodes k then zC nodes (k.toNat + 1) else []
theorem zhM (nodes : List NodeD) (k : Int) (hn : nodes.length <= 1048576) (hk : ∀ x ∈ nodes, x.kids.length <= 1048576) : zu Tryz.prog 188 [.ro (.imm 83 (rows (zg true) nodes)), .ro (.sc (.int .i64 k))] (fun rs st => rs = [(false, [.row false 3 (row1 cI (okL nodes k))]), (false, [cB (okD nodes k)])]) := by
 refine zm (fn := Tryz.f188) (c := Tryz.f188.body.getD .skip) (res := [.tm 4, .tm 5]) (n := 51) zf (by kernel_rfl) (by rfl) (by kernel_rfl) (by rfl) (by rfl) (by simp [zp]) (fun uf ub C hpin hpin2 hfull => ?_)
 simp only [Tryz.f188, Option.getD_some]
 have w1 : IntKind.i64.wrap ((nodes.length : Int) - 1) = (nodes.length : Int) - 1 := w64 (by omega) (by omega)
 have e0 : row1 cI ([] : List Int) = [] := rfl
 refine Tri.step zf ?_
 simp +decide only [hpin, go_sem, reduceAdd, reduceMul]
 refine Tri.step zf ?_
 simp +decide only [w1, hpin, go_sem, reduceAdd, reduceMul]
 refine zd (in' k 0 (nodes.length - 1)) hpin ?_
 simp +decide only [hpin, go_sem, reduceAdd, reduceMul]
 cases h0 : inI k 0 (nodes.length - 1) with
 | false =>
   have hf : okD nodes k = false := by simp [okD, zQ, h0]
   have hf2 : okL nodes k = [] := by simp [okL, hf]
   simp +decide only [hf, hf2, e0, hpin, go_sem, reduceAdd, reduceMul]
 | true =>
 have hr := zx h0
 obtain ⟨n, rfl⟩ : ∃ n : Nat, k = n := ⟨k.toNat, by omega⟩
 have hnl : n < nodes.length := by omega
 have hdo : zQ nodes (n : Int) = dAt nodes n := by simp [zQ, h0]
 have bad : ∀ i, i <= n -> dAt nodes i = 0 -> okD nodes n = false /\ okL nodes n = [] := fun i hi hd => by
   have hz : dAt nodes n = 0 := Classical.byContradiction fun hne => YX nodes hi hne hd
   have hf : okD nodes n = false := by simp [okD, hdo, hz]
   exact ⟨hf, by simp [okL, hf]⟩
 simp +decide only [hpin, go_sem, reduceAdd, reduceMul]
 refine Tri.step zf ?_
 simp +decide only [hpin, go_sem, reduceAdd, reduceMul]
 refine Tri.step zf ?_
 simp +decide only [hpin, go_sem, reduceAdd, reduceMul]
 refine Tri.loop (ι := Nat) (fun i => i <= n + 1 /\ ∀ j, j < i -> dAt nodes j ≠ 0) (fun i => ⟨51, [(0, .imm 83 (rows (zg true) nodes)), (1, vI n), (6, .ref 6 [] i), (7, vI i)], [(6, .row 3 (row1 cI (zC nodes i)))]⟩) (fun i => n + 1 - i) 0 ⟨by simp, fun j hj => by omega⟩ ?_ ?_
 · refine Ent.weak ?_ ?_ ?_ ?_ <;> simp +decide [subT, subB, zk, zj, zl, St.get, look, vI, vB, vS, cI, cS, cB, zg, roI, zC, row1]
 · rintro i ⟨hi, hq⟩
   refine ze zf _ ?_
   have hlen := yw nodes i
   by_cases h' : i < n + 1
   · have e : ((i : Int) <= (n : Int)) = True := by simp; omega
     have hil : i < nodes.length := by omega
     have hc1 : ((i : Int) < (nodes.length : Int)) = True := eq_true (by omega)
     simp +decide only [e, vB, vI, hpin, go_sem, reduceAdd, reduceMul]
     refine zd (ziD nodes i hn hk) hpin ?_
     simp +decide only [hpin, go_sem, reduceAdd, reduceMul]
     cases hb : ZC nodes i with
     | false =>
       obtain ⟨f1, f2⟩ := bad i (by omega) (Classical.byContradiction fun hne => by rw [Zn nodes i hne] at hb; cases hb)
       simp +decide only [f1, f2, e0, hpin, go_sem, reduceAdd, reduceMul]
     | true =>
     obtain ⟨_, hkid⟩ := zjL hb
     have hv := zpA nodes i hb (by
       by_cases hz : i = 0
       · exact Or.inl hz
       · exact Or.inr (hq (i - 1) (by omega)))
     rw [zF hil] at hv
     have hkx := hk nodes[i] (List.getElem_mem hil)
     generalize hx : nodes[i] = x at hv hkid hkx
     simp +decide only [hc1, zh _ _ hil, hx, Int.natCast_nonneg, zg, hpin, go_sem, reduceAdd, reduceMul]
     refine Tri.loop (ι := Nat) (fun j => j <= x.kids.length) (fun j => ⟨51, [(0, .imm 83 (rows (zg true) nodes)), (1, vI n), (6, .ref 6 [] i), (7, vI i), (8, vI (yv (zC nodes i) 1 (x.kids.take j))), (30, roI x.kids), (31, vI x.kids.length), (32, vI j)], [(6, .row 3 (row1 cI (zC nodes i)))]⟩) (fun j => x.kids.length - j) 0 (by simp) ?_ ?_
     · refine Ent.weak ?_ ?_ ?_ ?_ <;> simp +decide [subT, subB, zk, zj, zl, St.get, look, vI, vB, vS, cI, cS, cB, zg, roI, yv]
     · rintro j hj
       refine ze zf _ ?_
       by_cases hj' : j < x.kids.length
       · have e2 : ((j : Int) < (x.kids.length : Int)) = True := by simp [hj']
         obtain ⟨q0, q1, q2⟩ := hkid j hj'
         have z0 : (0 <= x.kids[j]) = True := eq_true q0
         have z1 : (x.kids[j] < (i : Int)) = True := eq_true q1
         have z2 : x.kids[j].toNat < (zC nodes i).length := by rw [hlen]; exact q2
         have hg : (zC nodes i)[x.kids[j].toNat] = (zC nodes i).getD x.kids[j].toNat 0 := by simp [List.getD, z2]
         have hrg := zaG nodes i x.kids[j].toNat
         have w2 : IntKind.i64.wrap ((zC nodes i).getD x.kids[j].toNat 0 + 1) = (zC nodes i).getD x.kids[j].toNat 0 + 1 := w64 (by omega) (by omega)
         simp +decide only [e2, z0, z1, q2, hlen, zq _ _ hj', zq _ _ z2, yd _ _ z2, maxI, hg, w2, Int.natCast_nonneg, vB, vI, hpin, go_sem, reduceAdd, reduceMul]
         refine ⟨j + 1, hj', by omega, Ent.weak ?_ ?_ ?_ ?_⟩
         all_goals simp +decide [subT, subB, zk, zj, zl, St.get, look, vI, vB, vS, cI, cS, cB, zg, roI, w64s (n := x.kids.length) hj' (by omega), zbV, hj']
       · have hjl : j = x.kids.length := by omega
         subst hjl
         have e2 : ((x.kids.length : Int) < (x.kids.length : Int)) = False := by simp
         simp +decide only [e2, vB, vI, hpin, go_sem, reduceAdd, reduceMul]
         by_cases hd : 10 < yv (zC nodes i) 1 x.kids
         · have hd1 : (10 < yv (zC nodes i) 1 x.kids) = True := eq_true hd
           obtain ⟨f1, f2⟩ := bad i (by omega) (by rw [hv]; simp [zby, hd])
           simp +decide only [hd1, f1, f2, e0, hpin, go_sem, reduceAdd, reduceMul]
         · have hd1 : (10 < yv (zC nodes i) 1 x.kids) = False := eq_false hd
           have hge := zbx (zC nodes i) x.kids 1
           have hvv : dAt nodes i = yv (zC nodes i) 1 x.kids := by rw [hv]; simp [zby, hd]
           have hb1 : i + 1 <= 140737488355328 := by omega
           have hb2 : (i + 1) * 8 <= 140737488355328 := by omega
           have hds : zC nodes (i + 1) = zC nodes i ++ [yv (zC nodes i) 1 x.kids] := by rw [<- hvv]; rfl
           simp +decide only [hd1, hlen, hb1, hb2, hpin, go_sem, reduceAdd, reduceMul]
           refine ⟨i + 1, ⟨by omega, fun j hj => ?_⟩, by omega, Ent.weak ?_ ?_ ?_ ?_⟩
           · by_cases hji : j = i
             · subst hji; rw [hvv]; omega
             · exact hq j (by omega)
           all_goals simp +decide [subT, subB, zk, zj, zl, St.get, look, vI, vB, vS, cI, cS, cB, zg, roI, w64s (n := nodes.length) hil (by omega), hds, row1]
   · have hin : i = n + 1 := by omega
     subst hin
     have e : (((n + 1 : Nat) : Int) <= (n : Int)) = False := by simp; omega
     have hnz := hq n (by omega)
     have hf : okD nodes n = true := by simp [okD, hdo, hnz]
     have hf2 : okL nodes n = zC nodes (n + 1) := by simp [okL, hf]
     simp +decide only [e, hf, hf2, hlen, vB, vI, hpin, go_sem, reduceAdd, reduceMul]
     refine ze zf _ ?_
     simp +decide only [hlen, hpin, go_sem, reduceAdd, reduceMul]
theorem zaI (nodes : List NodeD) (k : Int) (hn : nodes.length <= 1048576) (hk : ∀ x ∈ nodes, x.kids.length <= 1048576) : zu Tryz.prog 148 [.ro (.imm 83 (rows (zg true) nodes)), .ro (.sc (.int .i64 k))] (fun rs st => rs = [(false, [cI (zQ nodes k)])]) := by
 refine zo (fn := Tryz.f148) (c := Tryz.f148.body.getD .skip) (res := [.tm 4]) (n := 19) zf (by kernel_rfl) (by rfl) (by kernel_rfl) (by rfl) (by rfl) (by simp [zp]) (fun C hpin hfull => ?_)
 simp +decide only [Tryz.f148, hpin, go_sem, reduceAdd, reduceMul]
 refine zd (zhM nodes k hn hk) hpin ?_
 simp +decide only [hpin, go_sem, reduceAdd, reduceMul]
 cases hd : okD nodes k with
 | false =>
   have h0 : zQ nodes k = 0 := by simpa [okD] using hd
   simp +decide only [h0, hpin, go_sem, reduceAdd, reduceMul]
 | true =>
   have h0 : inI k 0 (nodes.length - 1) = true := by
     cases h : inI k 0 (nodes.length - 1) with
     | true => rfl
     | false => simp [okD, zQ, h] at hd
   have hr := zx h0
   obtain ⟨n, rfl⟩ : ∃ n : Nat, k = n := ⟨k.toNat, by omega⟩
   have hf2 : okL nodes n = zC nodes (n + 1) := by simp [okL, hd]
   have hl := yw nodes (n + 1)
   have hlt : n < (zC nodes (n + 1)).length := by omega
   have hg : (zC nodes (n + 1))[n] = zQ nodes n := by
     have := YC nodes (show n < n + 1 by omega)
     simp only [List.getD, hlt, List.getElem?_eq_getElem, Option.getD_some] at this
     rw [this]; simp [zQ, h0, dAt]
   have hc : ((n : Int) < ((n + 1 : Nat) : Int)) = True := eq_true (by omega)
   simp +decide only [hf2, hl, hc, yd _ _ hlt, hg, Int.natCast_nonneg, hpin, go_sem, reduceAdd, reduceMul]
theorem zcn (nodes : List NodeD) (n : Nat) (hnl : n < nodes.length) (hn : nodes.length <= 1048576) (hk : ∀ x ∈ nodes, x.kids.length <= 1048576) : zu Tryz.prog 185 [.ro (.imm 83 (rows (zg true) nodes)), .ro (.sc (.int .i64 n))] (fun rs st => rs = [(false, [.row false 3 (row1 cI (zC nodes (n + 1)))])]) := by
 refine zm (fn := Tryz.f185) (c := Tryz.f185.body.getD .skip) (res := [.tm 4]) (n := 84) zf (by kernel_rfl) (by rfl) (by kernel_rfl) (by rfl) (by rfl) (by simp [zp]) (fun uf ub C hpin hpin2 hfull => ?_)
 simp only [Tryz.f185, Option.getD_some]
 refine Tri.step zf ?_
 simp +decide only [hpin, go_sem, reduceAdd, reduceMul]
 refine Tri.step zf ?_
 simp +decide only [hpin, go_sem, reduceAdd, reduceMul]
 refine Tri.step zf ?_
 simp +decide only [hpin, go_sem, reduceAdd, reduceMul]
 refine Tri.loop (ι := Nat) (fun i => i <= n + 1) (fun i => ⟨84, [(0, .imm 83 (rows (zg true) nodes)), (1, vI n), (5, .ref 5 [] i), (6, vI i)], [(5, .row 3 (row1 cI (zC nodes i)))]⟩) (fun i => n + 1 - i) 0 (by simp) ?_ ?_
 · refine Ent.weak ?_ ?_ ?_ ?_ <;> simp +decide [subT, subB, zk, zj, zl, St.get, look, vI, vB, vS, cI, cS, cB, zg, roI, zC, row1]
 · rintro i hi
   refine ze zf _ ?_
   have hlen := yw nodes i
   by_cases h' : i < n + 1
   · have e : ((i : Int) <= (n : Int)) = True := by simp; omega
     have hil : i < nodes.length := by omega
     have hc1 : ((i : Int) < (nodes.length : Int)) = True := eq_true (by omega)
     have hkx := hk nodes[i] (List.getElem_mem hil)
     have hb1 : i + 1 <= 140737488355328 := by omega
     have hb2 : (i + 1) * 8 <= 140737488355328 := by omega
     let g : Bool := ZC nodes i && (i == 0 || !((zC nodes i).getD (i - 1) 0 == 0))
     have hds : zC nodes (i + 1) = zC nodes i ++ [bif g then zby (yv (zC nodes i) 1 nodes[i].kids) else 0] := by
       simp only [zC, zeM, zF hil]
       show _ = zC nodes i ++ [bif (ZC nodes i && (i == 0 || !((zC nodes i).getD (i - 1) 0 == 0))) then _ else _]
       cases (ZC nodes i && (i == 0 || !((zC nodes i).getD (i - 1) 0 == 0))) <;> simp
     simp +decide only [e, hc1, vB, vI, hpin, go_sem, reduceAdd, reduceMul]
     refine zd (ziC nodes i hn hk) hpin ?_
     cases hb : ZC nodes i with
     | false =>
       have hg : g = false := by simp [g, hb]
       by_cases hz : i = 0
       · have hz1 : (0 < (i : Int)) = False := eq_false (by omega)
         have hd0 : zC nodes i = [] := by rw [hz]; rfl
         have w3 : IntKind.i64.wrap ((i : Int) - 1) = -1 := by rw [hz]; decide
         have hr0 : row1 cI ([] : List Int) = [] := rfl
         simp +decide only [hz1, w3, hd0, hr0, Option.bind_none, hpin, go_sem, reduceAdd, reduceMul]
         rw [hg] at hds
         simp only [cond_false] at hds
         refine Tri.loop (ι := Unit) (fun _ => True) (fun _ => ⟨84, [(0, .imm 83 (rows (zg true) nodes)), (1, vI n), (5, .ref 5 [] i), (6, vI i), (7, vI 0), (8, vI 0)], [(5, .row 3 (row1 cI (zC nodes i)))]⟩) (fun _ => 0) () trivial ?_ ?_
         · refine Ent.weak ?_ ?_ ?_ ?_ <;> simp +decide [subT, subB, zk, zj, zl, St.get, look, vI, vB, vS, cI, cS, cB, zg, roI, hd0, row1]
         · rintro _ _
           refine ze zf _ ?_
           simp +decide only [vB, vI, hlen, hc1, hb1, hb2, zh _ _ hil, zg, Int.natCast_nonneg, hpin, go_sem, reduceAdd, reduceMul]
           refine ⟨i + 1, by omega, by omega, Ent.weak ?_ ?_ ?_ ?_⟩
           all_goals simp +decide [subT, subB, zk, zj, zl, St.get, look, vI, vB, vS, cI, cS, cB, zg, roI, w64s (n := nodes.length) hil (by omega), hds, row1]
       · have hz1 : (0 < (i : Int)) = True := eq_true (by omega)
         have w3 : IntKind.i64.wrap ((i : Int) - 1) = ((i - 1 : Nat) : Int) := by rw [w64 (by omega) (by omega)]; omega
         have z3 : i - 1 < (zC nodes i).length := by omega
         have z4 : (((i - 1 : Nat) : Int) < (i : Int)) = True := eq_true (by omega)
         have z5 : i - 1 < i := by omega
         simp +decide only [hz1, w3, z4, z5, hlen, yd _ _ z3, Int.natCast_nonneg, hpin, go_sem, reduceAdd, reduceMul]
         rw [hg] at hds
         simp only [cond_false] at hds
         refine Tri.loop (ι := Unit) (fun _ => True) (fun _ => ⟨84, [(0, .imm 83 (rows (zg true) nodes)), (1, vI n), (5, .ref 5 [] i), (6, vI i), (7, vI 0), (8, vI 0)], [(5, .row 3 (row1 cI (zC nodes i)))]⟩) (fun _ => 0) () trivial ?_ ?_
         · refine Ent.weak ?_ ?_ ?_ ?_ <;> simp +decide [subT, subB, zk, zj, zl, St.get, look, vI, vB, vS, cI, cS, cB, zg, roI]
         · rintro _ _
           refine ze zf _ ?_
           simp +decide only [vB, vI, hlen, hc1, hb1, hb2, zh _ _ hil, zg, Int.natCast_nonneg, hpin, go_sem, reduceAdd, reduceMul]
           refine ⟨i + 1, by omega, by omega, Ent.weak ?_ ?_ ?_ ?_⟩
           all_goals simp +decide [subT, subB, zk, zj, zl, St.get, look, vI, vB, vS, cI, cS, cB, zg, roI, w64s (n := nodes.length) hil (by omega), hds, row1]
     | true =>
     by_cases hz : i = 0
     · have hi0 : (i == 0) = true := by simp [hz]
       have hg : g = true := by simp only [g, hb, hi0]; rfl
       have hz1 : (0 < (i : Int)) = False := eq_false (by omega)
       have hd0 : zC nodes i = [] := by rw [hz]; rfl
       have w3 : IntKind.i64.wrap ((i : Int) - 1) = -1 := by rw [hz]; decide
       have hr0 : row1 cI ([] : List Int) = [] := rfl
       simp +decide only [hz1, w3, hd0, hr0, Option.bind_none, hpin, go_sem, reduceAdd, reduceMul]
       rw [hg] at hds
       simp only [cond_true] at hds
       obtain ⟨_, hkid⟩ := zjL hb
       generalize hx : nodes[i] = x at hds hkid hkx
       refine Tri.loop (ι := Nat) (fun j => j <= x.kids.length) (fun j => ⟨84, [(0, .imm 83 (rows (zg true) nodes)), (1, vI n), (5, .ref 5 [] i), (6, vI i), (7, vI (yv (zC nodes i) 1 (x.kids.take j))), (8, vI j)], [(5, .row 3 (row1 cI (zC nodes i)))]⟩) (fun j => x.kids.length - j) 0 (by simp) ?_ ?_
       · refine Ent.weak ?_ ?_ ?_ ?_ <;> simp +decide [subT, subB, zk, zj, zl, St.get, look, vI, vB, vS, cI, cS, cB, zg, roI, yv, hd0, row1]
       · rintro j hj
         refine ze zf _ ?_
         have hpos : (0 < yv (zC nodes i) 1 (x.kids.take j)) = True := eq_true (by have := zbx (zC nodes i) (x.kids.take j) 1; omega)
         by_cases hj' : j < x.kids.length
         · have e2 : ((j : Int) < (x.kids.length : Int)) = True := by simp [hj']
           obtain ⟨q0, q1, q2⟩ := hkid j hj'
           have z0 : (0 <= x.kids[j]) = True := eq_true q0
           have z1 : (x.kids[j] < (i : Int)) = True := eq_true q1
           have z2 : x.kids[j].toNat < (zC nodes i).length := by rw [hlen]; exact q2
           have hgg : (zC nodes i)[x.kids[j].toNat] = (zC nodes i).getD x.kids[j].toNat 0 := by simp [List.getD, z2]
           have hrg := zaG nodes i x.kids[j].toNat
           have w2 : IntKind.i64.wrap ((zC nodes i).getD x.kids[j].toNat 0 + 1) = (zC nodes i).getD x.kids[j].toNat 0 + 1 := w64 (by omega) (by omega)
           have htk := zbV (zC nodes i) x.kids 1 hj'
           simp +decide only [hpos, e2, hc1, z0, z1, q2, hlen, hx, zh _ _ hil, zg, zq _ _ hj', yd _ _ z2, hgg, w2, Int.natCast_nonneg, vB, vI, hpin, go_sem, reduceAdd, reduceMul]
           by_cases hm : (zC nodes i).getD x.kids[j].toNat 0 + 1 > yv (zC nodes i) 1 (x.kids.take j)
           · have hm1 : ((zC nodes i).getD x.kids[j].toNat 0 + 1 > yv (zC nodes i) 1 (x.kids.take j)) = True := eq_true hm
             have hm2 : (yv (zC nodes i) 1 (x.kids.take j) < (zC nodes i).getD x.kids[j].toNat 0 + 1) = True := eq_true hm
             rw [show max (yv (zC nodes i) 1 (x.kids.take j)) ((zC nodes i).getD x.kids[j].toNat 0 + 1) = (zC nodes i).getD x.kids[j].toNat 0 + 1 by rw [Int.max_def]; split <;> omega] at htk
             simp +decide only [hm1, hm2, hpos, e2, hc1, z0, z1, q2, hlen, hx, zh _ _ hil, zg, zq _ _ hj', yd _ _ z2, hgg, w2, Int.natCast_nonneg, vB, vI, hpin, go_sem, reduceAdd, reduceMul]
             refine ⟨j + 1, hj', by omega, Ent.weak ?_ ?_ ?_ ?_⟩
             all_goals simp +decide [subT, subB, zk, zj, zl, St.get, look, vI, vB, vS, cI, cS, cB, zg, roI, w64s (n := x.kids.length) hj' (by omega), htk]
           · have hm1 : ((zC nodes i).getD x.kids[j].toNat 0 + 1 > yv (zC nodes i) 1 (x.kids.take j)) = False := eq_false hm
             have hm2 : (yv (zC nodes i) 1 (x.kids.take j) < (zC nodes i).getD x.kids[j].toNat 0 + 1) = False := eq_false hm
             rw [show max (yv (zC nodes i) 1 (x.kids.take j)) ((zC nodes i).getD x.kids[j].toNat 0 + 1) = yv (zC nodes i) 1 (x.kids.take j) by rw [Int.max_def]; split <;> omega] at htk
             simp +decide only [hm1, hm2, hpos, e2, hc1, hpin, go_sem, reduceAdd, reduceMul]
             refine ⟨j + 1, hj', by omega, Ent.weak ?_ ?_ ?_ ?_⟩
             all_goals simp +decide [subT, subB, zk, zj, zl, St.get, look, vI, vB, vS, cI, cS, cB, zg, roI, w64s (n := x.kids.length) hj' (by omega), htk]
         · have hjl : j = x.kids.length := by omega
           subst hjl
           have e2 : ((x.kids.length : Int) < (x.kids.length : Int)) = False := by simp
           rw [List.take_length] at hpos
           simp +decide only [e2, hpos, hc1, hx, zh _ _ hil, zg, Int.natCast_nonneg, vB, vI, hpin, go_sem, reduceAdd, reduceMul]
           by_cases hd : 10 < yv (zC nodes i) 1 x.kids
           · have hd1 : (10 < yv (zC nodes i) 1 x.kids) = True := eq_true hd
             have hv : zby (yv (zC nodes i) 1 x.kids) = 0 := by simp [zby, hd]
             rw [hv] at hds
             simp +decide only [hd1, hlen, hb1, hb2, hpin, go_sem, reduceAdd, reduceMul]
             refine ⟨i + 1, by omega, by omega, Ent.weak ?_ ?_ ?_ ?_⟩
             all_goals simp +decide [subT, subB, zk, zj, zl, St.get, look, vI, vB, vS, cI, cS, cB, zg, roI, w64s (n := nodes.length) hil (by omega), hds, row1]
           · have hd1 : (10 < yv (zC nodes i) 1 x.kids) = False := eq_false hd
             have hv : zby (yv (zC nodes i) 1 x.kids) = yv (zC nodes i) 1 x.kids := by simp [zby, hd]
             rw [hv] at hds
             simp +decide only [hd1, hlen, hb1, hb2, hpin, go_sem, reduceAdd, reduceMul]
             refine ⟨i + 1, by omega, by omega, Ent.weak ?_ ?_ ?_ ?_⟩
             all_goals simp +decide [subT, subB, zk, zj, zl, St.get, look, vI, vB, vS, cI, cS, cB, zg, roI, w64s (n := nodes.length) hil (by omega), hds, row1]
     · have hz1 : (0 < (i : Int)) = True := eq_true (by omega)
       have w3 : IntKind.i64.wrap ((i : Int) - 1) = ((i - 1 : Nat) : Int) := by rw [w64 (by omega) (by omega)]; omega
       have z3 : i - 1 < (zC nodes i).length := by omega
       have z4 : (((i - 1 : Nat) : Int) < (i : Int)) = True := eq_true (by omega)
       have z5 : i - 1 < i := by omega
       have hg3 : (zC nodes i)[i - 1] = (zC nodes i).getD (i - 1) 0 := by simp [List.getD, z3]
       have hi0 : (i == 0) = false := by simp [hz]
       simp +decide only [hz1, w3, z4, z5, hlen, yd _ _ z3, hg3, Int.natCast_nonneg, hpin, go_sem, reduceAdd, reduceMul]
       cases hq : (zC nodes i).getD (i - 1) 0 == 0 with
       | true =>
         have hg : g = false := by simp only [g, hb, hi0, hq]; rfl
         simp +decide only [hq, hpin, go_sem, reduceAdd, reduceMul]
         rw [hg] at hds
         simp only [cond_false] at hds
         refine Tri.loop (ι := Unit) (fun _ => True) (fun _ => ⟨84, [(0, .imm 83 (rows (zg true) nodes)), (1, vI n), (5, .ref 5 [] i), (6, vI i), (7, vI 0), (8, vI 0)], [(5, .row 3 (row1 cI (zC nodes i)))]⟩) (fun _ => 0) () trivial ?_ ?_
         · refine Ent.weak ?_ ?_ ?_ ?_ <;> simp +decide [subT, subB, zk, zj, zl, St.get, look, vI, vB, vS, cI, cS, cB, zg, roI]
         · rintro _ _
           refine ze zf _ ?_
           simp +decide only [vB, vI, hlen, hc1, hb1, hb2, zh _ _ hil, zg, Int.natCast_nonneg, hpin, go_sem, reduceAdd, reduceMul]
           refine ⟨i + 1, by omega, by omega, Ent.weak ?_ ?_ ?_ ?_⟩
           all_goals simp +decide [subT, subB, zk, zj, zl, St.get, look, vI, vB, vS, cI, cS, cB, zg, roI, w64s (n := nodes.length) hil (by omega), hds, row1]
       | false =>
         have hg : g = true := by simp only [g, hb, hi0, hq]; rfl
         simp +decide only [hq, hpin, go_sem, reduceAdd, reduceMul]
         rw [hg] at hds
         simp only [cond_true] at hds
         obtain ⟨_, hkid⟩ := zjL hb
         generalize hx : nodes[i] = x at hds hkid hkx
         refine Tri.loop (ι := Nat) (fun j => j <= x.kids.length) (fun j => ⟨84, [(0, .imm 83 (rows (zg true) nodes)), (1, vI n), (5, .ref 5 [] i), (6, vI i), (7, vI (yv (zC nodes i) 1 (x.kids.take j))), (8, vI j)], [(5, .row 3 (row1 cI (zC nodes i)))]⟩) (fun j => x.kids.length - j) 0 (by simp) ?_ ?_
         · refine Ent.weak ?_ ?_ ?_ ?_ <;> simp +decide [subT, subB, zk, zj, zl, St.get, look, vI, vB, vS, cI, cS, cB, zg, roI, yv]
         · rintro j hj
           refine ze zf _ ?_
           have hpos : (0 < yv (zC nodes i) 1 (x.kids.take j)) = True := eq_true (by have := zbx (zC nodes i) (x.kids.take j) 1; omega)
           by_cases hj' : j < x.kids.length
           · have e2 : ((j : Int) < (x.kids.length : Int)) = True := by simp [hj']
             obtain ⟨q0, q1, q2⟩ := hkid j hj'
             have z0 : (0 <= x.kids[j]) = True := eq_true q0
             have z1 : (x.kids[j] < (i : Int)) = True := eq_true q1
             have z2 : x.kids[j].toNat < (zC nodes i).length := by rw [hlen]; exact q2
             have hgg : (zC nodes i)[x.kids[j].toNat] = (zC nodes i).getD x.kids[j].toNat 0 := by simp [List.getD, z2]
             have hrg := zaG nodes i x.kids[j].toNat
             have w2 : IntKind.i64.wrap ((zC nodes i).getD x.kids[j].toNat 0 + 1) = (zC nodes i).getD x.kids[j].toNat 0 + 1 := w64 (by omega) (by omega)
             have htk := zbV (zC nodes i) x.kids 1 hj'
             simp +decide only [hpos, e2, hc1, z0, z1, q2, hlen, hx, zh _ _ hil, zg, zq _ _ hj', yd _ _ z2, hgg, w2, Int.natCast_nonneg, vB, vI, hpin, go_sem, reduceAdd, reduceMul]
             by_cases hm : (zC nodes i).getD x.kids[j].toNat 0 + 1 > yv (zC nodes i) 1 (x.kids.take j)
             · have hm1 : ((zC nodes i).getD x.kids[j].toNat 0 + 1 > yv (zC nodes i) 1 (x.kids.take j)) = True := eq_true hm
               have hm2 : (yv (zC nodes i) 1 (x.kids.take j) < (zC nodes i).getD x.kids[j].toNat 0 + 1) = True := eq_true hm
               rw [show max (yv (zC nodes i) 1 (x.kids.take j)) ((zC nodes i).getD x.kids[j].toNat 0 + 1) = (zC nodes i).getD x.kids[j].toNat 0 + 1 by rw [Int.max_def]; split <;> omega] at htk
               simp +decide only [hm1, hm2, hpos, e2, hc1, z0, z1, q2, hlen, hx, zh _ _ hil, zg, zq _ _ hj', yd _ _ z2, hgg, w2, Int.natCast_nonneg, vB, vI, hpin, go_sem, reduceAdd, reduceMul]
               refine ⟨j + 1, hj', by omega, Ent.weak ?_ ?_ ?_ ?_⟩
               all_goals simp +decide [subT, subB, zk, zj, zl, St.get, look, vI, vB, vS, cI, cS, cB, zg, roI, w64s (n := x.kids.length) hj' (by omega), htk]
             · have hm1 : ((zC nodes i).getD x.kids[j].toNat 0 + 1 > yv (zC nodes i) 1 (x.kids.take j)) = False := eq_false hm
               have hm2 : (yv (zC nodes i) 1 (x.kids.take j) < (zC nodes i).getD x.kids[j].toNat 0 + 1) = False := eq_false hm
               rw [show max (yv (zC nodes i) 1 (x.kids.take j)) ((zC nodes i).getD x.kids[j].toNat 0 + 1) = yv (zC nodes i) 1 (x.kids.take j) by rw [Int.max_def]; split <;> omega] at htk
               simp +decide only [hm1, hm2, hpos, e2, hc1, hpin, go_sem, reduceAdd, reduceMul]
               refine ⟨j + 1, hj', by omega, Ent.weak ?_ ?_ ?_ ?_⟩
               all_goals simp +decide [subT, subB, zk, zj, zl, St.get, look, vI, vB, vS, cI, cS, cB, zg, roI, w64s (n := x.kids.length) hj' (by omega), htk]
           · have hjl : j = x.kids.length := by omega
             subst hjl
             have e2 : ((x.kids.length : Int) < (x.kids.length : Int)) = False := by simp
             rw [List.take_length] at hpos
             simp +decide only [e2, hpos, hc1, hx, zh _ _ hil, zg, Int.natCast_nonneg, vB, vI, hpin, go_sem, reduceAdd, reduceMul]
             by_cases hd : 10 < yv (zC nodes i) 1 x.kids
             · have hd1 : (10 < yv (zC nodes i) 1 x.kids) = True := eq_true hd
               have hv : zby (yv (zC nodes i) 1 x.kids) = 0 := by simp [zby, hd]
               rw [hv] at hds
               simp +decide only [hd1, hlen, hb1, hb2, hpin, go_sem, reduceAdd, reduceMul]
               refine ⟨i + 1, by omega, by omega, Ent.weak ?_ ?_ ?_ ?_⟩
               all_goals simp +decide [subT, subB, zk, zj, zl, St.get, look, vI, vB, vS, cI, cS, cB, zg, roI, w64s (n := nodes.length) hil (by omega), hds, row1]
             · have hd1 : (10 < yv (zC nodes i) 1 x.kids) = False := eq_false hd
               have hv : zby (yv (zC nodes i) 1 x.kids) = yv (zC nodes i) 1 x.kids := by simp [zby, hd]
               rw [hv] at hds
               simp +decide only [hd1, hlen, hb1, hb2, hpin, go_sem, reduceAdd, reduceMul]
               refine ⟨i + 1, by omega, by omega, Ent.weak ?_ ?_ ?_ ?_⟩
               all_goals simp +decide [subT, subB, zk, zj, zl, St.get, look, vI, vB, vS, cI, cS, cB, zg, roI, w64s (n := nodes.length) hil (by omega), hds, row1]
   · have hin : i = n + 1 := by omega
     subst hin
     have e : (((n + 1 : Nat) : Int) <= (n : Int)) = False := by simp; omega
     simp +decide only [e, hlen, vB, vI, hpin, go_sem, reduceAdd, reduceMul]
     refine ze zf _ ?_
     simp +decide only [hlen, hpin, go_sem, reduceAdd, reduceMul]
end Go.Proofs.YtjjigphfjclofaaGreatDoor.AW
