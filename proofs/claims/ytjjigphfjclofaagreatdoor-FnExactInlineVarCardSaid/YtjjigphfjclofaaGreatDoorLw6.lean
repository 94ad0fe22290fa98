/- What the statements of this set lean on, part 6. No condition beyond those named. -/
import Derived.Test.YtjjigphfjclofaaGreatDoorLw5
import Derived.Shelf.Lay
import Derived.Shelf.Sort.Plain
import Derived.Shelf.Slices.In.SortNone2
import Derived.Sort.OwnSortedInts
namespace Go.Proofs
open Go.Shelf
shelf_lay Lays.n191 Nm 191 at Tryz as YtjjigphfjclofaaGreatDoorlays
end Go.Proofs
namespace Go.Proofs.YtjjigphfjclofaaGreatDoor.AW
open Go.RowKit Go.Sort
set_option maxHeartbeats 8000000
set_option maxRecDepth 100000
set_option linter.unusedSimpArgs false
set_option linter.unusedVariables false
def xB (l : List Int) : List Int := l.mergeSort fun x y => decide (x <= y)
theorem yW (l : List Int) : (xB l).length = l.length := (List.mergeSort_perm l _).length_eq
theorem zkq (l : List Int) (x : Int) : x ∈ xB l ↔ x ∈ l := (List.mergeSort_perm l _).mem_iff
theorem zlC (l : List Int) : (xB l).Pairwise (· <= ·) := by
 have := List.pairwise_mergeSort (le := fun x y : Int => decide (x <= y)) (fun a b c h1 h2 => by simp at *; omega) (fun a b => by simp; omega) l
 exact this.imp (fun h => by simpa using h)
theorem zaU : ∀ {l m : List Int}, l.Pairwise (· < ·) -> m.Pairwise (· < ·) -> (∀ x, x ∈ l ↔ x ∈ m) -> l = m
 | [], [], _, _, _ => rfl
 | [], y :: m, _, _, h => by have := (h y).2 List.mem_cons_self; simp at this
 | x :: l, [], _, _, h => by have := (h x).1 List.mem_cons_self; simp at this
 | x :: l, y :: m, hl, hm, h => by
   have hl' := List.pairwise_cons.1 hl
   have hm' := List.pairwise_cons.1 hm
   have hxy : x = y := by
     have h1 := (h x).1 List.mem_cons_self
     have h2 := (h y).2 List.mem_cons_self
     rcases List.mem_cons.1 h1 with e | e
     · exact e
     · rcases List.mem_cons.1 h2 with e' | e'
       · exact e'.symm
       · have a := hl'.1 y e'; have b := hm'.1 x e; omega
   subst hxy
   congr 1
   refine zaU hl'.2 hm'.2 (fun z => ⟨fun hz => ?_, fun hz => ?_⟩)
   · rcases List.mem_cons.1 ((h z).1 (List.mem_cons_of_mem _ hz)) with e | e
     · subst e; have := hl'.1 z hz; omega
     · exact e
   · rcases List.mem_cons.1 ((h z).2 (List.mem_cons_of_mem _ hz)) with e | e
     · subst e; have := hm'.1 z hz; omega
     · exact e
theorem zgN {l m : List Int} (hn : l.Nodup) (hm : m.Pairwise (· < ·)) (h : ∀ x, x ∈ l ↔ x ∈ m) : xB l = m := by
 refine zaU ?_ hm (fun x => (zkq l x).trans (h x))
 have h1 := zlC l
 have h2 : (xB l).Nodup := (List.mergeSort_perm l _).nodup_iff.2 hn
 exact List.Pairwise.imp₂ (fun a b hab hne => by omega) h1 h2
theorem zad (l : List Int) (hlen : l.length < 4611686018427387904) : SoundAt Tryz.prog 154 (fun uf => zp 0 [.ro (.ref 2000 [] l.length)]) [(2000, .row 3 (row1 cI l))] (fun rs st => rs = [] /\ xK st.ob [(2000, .row 3 (row1 cI (xB l)))]) := by
 refine ⟨by kernel_rfl, fun uf ub C w gh us hw hpin hpin2 hfull hus hR => ?_⟩
 have h0 := hR.tms 0
 have e0 : St.get ⟨us.size, zipT 0 (zp 0 [Arg.ro (.ref 2000 [] l.length)]), [(2000, Ob.row 3 (row1 cI l))]⟩ 0 = .ref 2000 [] l.length := rfl
 rw [e0] at h0
 have hus1 : us.size = 1 := hus
 obtain ⟨u, rfl⟩ : ∃ u, us = #[u] := ⟨us[0], by apply Array.ext (by simp [hus1]); intro i h1 h2; simp at h2; subst h2; rfl⟩
 have eu : (#[u] : Array Value).getD 0 undef = u := rfl
 simp only [eu] at h0
 have hob := hR.obs 2000 (.row 3 (row1 cI l)) rfl
 cases h0 with
 | @ref o n p x e es A c hx hn hle =>
 have hx' : Ob.row 3 (row1 cI l) = x := by simpa [look] using hx
 subst hx'
 obtain ⟨rfl, rfl, hv⟩ := xH hn
 rw [zS] at hv
 cases hob with
 | row how =>
 have hwr := hR.wrR 2000 3 (row1 cI l)
 have hns := hR.nS 2000 (.row 3 (row1 cI l))
 generalize hF : gh.F 2000 = F0 at how hwr hns
 generalize hvv : gh.hv 2000 = v0 at how hv
 subst hv
 generalize hq : Value.slice A l.length c = v at how
 generalize hes : row1 cI l = es at how
 generalize hD : D.row false 3 es = dd at how
 cases how with
 | dead | sc | shared => cases hD
 | @row e' es' v' xs F own hsz h1 hxx dis nb =>
 injection hD with _ he hes2
 subst he
 subst hes2
 subst hes
 subst hq
 have hxs : xs = l.map (Value.int .i64) := by
   have hl0 := own.1
   rw [zgG, Nat.mul_one, zS] at hl0
   refine List.ext_getElem (by simp [hl0]) (fun i g1 g2 => ?_)
   have hil : i < l.length := by omega
   have := hxx i 0 (cI l[i]) (by unfold cellAt; rw [zaS cI l hil]; rfl)
   rw [zgG, Nat.mul_one, Nat.add_zero] at this
   have e1 : xs.getD i undef = xs[i] := by simp [List.getD, g1]
   rw [e1] at this
   have h2 := Ow.ro (S' := fun _ => True) this (fun _ _ => trivial) (fun _ _ => trivial)
   generalize xs[i] = y at h2
   cases h2
   simp
 have hres : ∀ (w' : World) (S : Nat -> Prop), Res Tryz.prog w' S [] [] (fun _ _ _ => False) := fun w' S =>
   ⟨rfl, fun i r v h => by simp at h, fun i r v h => by simp at h, fun i r v h => by simp at h, fun i v h => by simp at h, fun i r v j d h => by simp at h, fun i j i' j' r r' d d' k h => by simp at h⟩
 have hnone : ∀ k, Xd [] (fun _ _ _ => False) k -> False := fun k ⟨i, j, r, d, h, _⟩ => by simp at h
 rcases own.2 with ⟨hnil, hn0⟩ | ⟨g, cap, cur, hval, _, hblk, hnc, hcm, hcs, htk⟩
 · rw [zS] at hn0
   have hl0 : l = [] := List.eq_nil_of_length_eq_zero hn0
   subst hl0
   injection hnil with g1 g2 g3
   subst g1
   subst g3
   refine (Any.sort_Ints_none YtjjigphfjclofaaGreatDoorlays none 0 w).mono (fun e w' he => ?_)
   obtain ⟨rfl, rfl⟩ := he
   exact ⟨[], [], _, _, gh, fun _ _ _ => False, rfl, ⟨rfl, by simp [xK, look, xB]⟩, hres _ _, hR.less (fun k hk => (hnone k hk).elim)⟩
 · rw [zS] at hval hnc htk
   injection hval with g1 g2 g3
   subst g1
   subst g3
   rw [zgG, Nat.mul_one] at htk
   rw [zgG, Nat.mul_one] at hcs
   have hgl : g < w.heap.size := (Array.getElem?_eq_some_iff.1 hblk).1
   refine (Any.sort_Ints YtjjigphfjclofaaGreatDoorlays g 0 c l w (holds_of_blockI hblk (by rw [htk, hxs])) hgl hlen).mono (fun e w' he => ?_)
   obtain ⟨rfl, n, os, rfl⟩ := he
   have hgb := grownBy_sortedI (w := w) (g := g) (n := n) (os := os) (xB l).toArray
   have hgr := ownsRow_sortedI (n := n) (os := os) (base := 0) (yW l) (Nat.zero_le g) hblk hnc hcm (by simpa using hcs)
   have hheap := heap_sortedI (n := n) (os := os) (xB l).toArray hblk
   generalize hw' : grow (putRow (Value.int .i64) (Sort.ahead w n) g 0 (xB l).toArray) os = w' at hgb hgr hheap
   have hgF : gh.F 2000 g := by rw [hF]; exact Or.inl rfl
   have hwg := hR.wrR 2000 3 (row1 cI l) g rfl hgF
   have hnsg := hR.nS 2000 (.row 3 (row1 cI l)) g rfl hgF
   have hone : ∀ o, o ∉ [2000] -> ∀ (q : Ob), look [(2000, q)] o = none := fun o ho q => by
     have : o ≠ 2000 := by simpa using ho
     simp [look, this]
   let st0 : St := ⟨(#[Value.slice (some ⟨g, 0, none⟩) l.length c]).size, zipT 0 (zp 0 [Arg.ro (.ref 2000 [] l.length)]), [(2000, Ob.row 3 (row1 cI l))]⟩
   let st' : St := ⟨st0.nt, mapT (xg [2000]) st0.tm, [(2000, .row 3 (row1 cI (xB l)))]⟩
   have hR0 : Rep Tryz.prog C No st0 ⟨#[Value.slice (some ⟨g, 0, none⟩) l.length c], []⟩ w gh := hR
   have hlo : ∀ o, o ∈ [2000] -> o = 2000 := fun o ho => by simpa using ho
   obtain ⟨gh', hr', _, _⟩ := hR0.multi (st' := st') (w1 := w') [2000] (fun o => look st'.ob o) (fun o k => k = g) (fun _ => False) (fun o ho => rfl) (fun o ho => (hone o ho _).trans (hone o ho _).symm)
     (fun t => by unfold St.get; simp only [st', Zs]; cases look st0.tm t <;> simp [xg]) rfl
     (fun o ho => by
       rw [hlo o ho]
       exact ⟨3, row1 cI l, row1 cI (xB l), rfl, rfl, by rw [zS, zS, yW]⟩)
     hgb.size (fun o x k ho hx => by rw [hone o ho] at hx; cases hx)
     (fun k hk => hgb.block k (hR.sS k hk) (fun e => by cases e; exact hnsg hk))
     ⟨hgb.os, hgb.output, fun i hi => by
       by_cases hig : i = g
       · subst hig
         rw [hblk, hheap]
         refine ⟨rfl, rfl, by simp [putCells], fun j hj => (hj ⟨i, j, rfl, hwg.imp id (fun hh => hh j)⟩).elim⟩
       · have h1 := hgb.block i hi (fun e => hig (by cases e; rfl))
         have h2 := (World.keptBut_refl w (fun p => ∃ b f, p = MemPlace.cell b f /\ (C.w0.heap.size <= b \/ C.may b f))).2.2 i hi
         rw [h1]; exact h2⟩
     (fun o ho e es' hno => by
       rw [hlo o ho] at hno |-
       have hno : some (Ob.row 3 (row1 cI (xB l))) = some (Ob.row e es') := hno
       injection hno with hno
       injection hno with h1 h2
       subst h1
       subst h2
       rw [hvv]
       have how2 : Ow Tryz.prog w' gh.S (.row false 3 (row1 cI (xB l))) (.slice (some ⟨g, 0, none⟩) l.length c) (fun k => (Value.slice (some ⟨g, 0, none⟩) l.length c).ownBlock = some k \/ ∃ i j d, cellAt (row1 cI (xB l)) i j = some d /\ (fun _ => False) k) := by
         refine Ow.row ((xB l).map (Value.int .i64)) (fun _ _ _ => False) ?_ ?_ ?_ ?_ (fun i j i' j' d d' k _ _ h => h.elim) (fun i j d k _ h => h.elim)
         · rw [zgG, zS, yW]; exact hgr
         · intro q hq; simp [row1] at hq; obtain ⟨z, _, rfl⟩ := hq; simp [zgG]
         · intro q hq; simp at hq; obtain ⟨z, _, rfl⟩ := hq; rfl
         · intro i j d hd
           have hil : i < (xB l).length := by have := ym hd; rwa [zS] at this
           have hj := xd (n := 1) hd (fun q hq => by simp [row1] at hq; obtain ⟨z, _, rfl⟩ := hq; rfl)
           obtain rfl : j = 0 := by omega
           unfold cellAt at hd
           rw [zaS cI _ hil] at hd
           simp at hd
           subst hd
           have e1 : ((xB l).map (Value.int .i64)).getD (i * szT Tryz.prog 3 + 0) undef = .int .i64 (xB l)[i] := by
             rw [zgG, Nat.mul_one, Nat.add_zero]; simp [List.getD, hil]
           rw [e1]
           exact Ow.sc rfl
       exact how2.congr (fun k => ⟨fun h => h.elim (fun h => by injection h with h; exact h.symm) (fun ⟨_, _, _, _, h⟩ => h.elim), fun h => Or.inl (by rw [h]; rfl)⟩))
     (fun o ho k hk => Or.inl ⟨2000, by simp, by rw [hk]; exact hgF⟩)
     (fun o o' k ho ho' _ _ => (hlo o ho).trans (hlo o' ho').symm)
     (fun k hk => hk.elim) (fun o k ho hk hk' => hk')
   subst hw'
   exact ⟨[], [], st', _, gh', fun _ _ _ => False, rfl, ⟨rfl, rfl, trivial⟩, hres _ _, hr'.less (fun k hk => (hnone k hk).elim)⟩
open Go.RowKit
open Nat (reduceAdd reduceMul)
theorem XD (nodes : List NodeD) (k : Int) (hn : nodes.length <= 1048576) (hk : ∀ x ∈ nodes, x.kids.length <= 1048576) : zu Tryz.prog 133 [.ro (.imm 83 (rows (zg true) nodes)), .ro (.sc (.int .i64 k))] (fun rs st => rs = [(false, [cI (zQ nodes k)])]) := by
 refine zo (fn := Tryz.f133) (c := Tryz.f133.body.getD .skip) (res := [.tm 4]) (n := 17) zf (by kernel_rfl) (by rfl) (by kernel_rfl) (by rfl) (by rfl) (by simp [zp]) (fun C hpin hfull => ?_)
 have w1 : IntKind.i64.wrap ((nodes.length : Int) - 1) = (nodes.length : Int) - 1 := w64 (by omega) (by omega)
 simp +decide only [Tryz.f133, w1, hpin, go_sem, reduceAdd, reduceMul]
 refine zd (xv k 0 (nodes.length - 1)) hpin ?_
 simp +decide only [hpin, go_sem, reduceAdd, reduceMul]
 cases h0 : inI k 0 (nodes.length - 1) with
 | false =>
   have hz : zQ nodes k = 0 := by simp [zQ, h0]
   simp +decide only [hz, hpin, go_sem, reduceAdd, reduceMul]
 | true =>
   have hr := zx h0
   obtain ⟨n, rfl⟩ : ∃ n : Nat, k = n := ⟨k.toNat, by omega⟩
   have hl := yw nodes (n + 1)
   have hlt : n < (zC nodes (n + 1)).length := by omega
   have hg : (zC nodes (n + 1))[n] = zQ nodes n := by
     have := YC nodes (show n < n + 1 by omega)
     simp only [List.getD, hlt, List.getElem?_eq_getElem, Option.getD_some] at this
     rw [this]; simp [zQ, h0, dAt]
   have hc : ((n : Int) < ((n + 1 : Nat) : Int)) = True := eq_true (by omega)
   simp +decide only [hpin, go_sem, reduceAdd, reduceMul]
   refine zd (zcn nodes n (by omega) hn hk) hpin ?_
   simp +decide only [hl, hc, yd _ _ hlt, hg, Int.natCast_nonneg, hpin, go_sem, reduceAdd, reduceMul]
inductive Reach (nodes : List NodeD) : Nat -> Nat -> Prop
 | refl (n : Nat) : Reach nodes n n
 | step {n m : Nat} {kid : Int} (h : Reach nodes n m) (hm : m < nodes.length) (hk : kid ∈ nodes[m].kids) : Reach nodes n kid.toNat
theorem Reach.trans {nodes : List NodeD} {a b c : Nat} (h : Reach nodes a b) (h' : Reach nodes b c) : Reach nodes a c := by
 induction h' with
 | refl => exact h
 | step _ hm hk ih => exact .step ih hm hk
theorem zaz {nodes : List NodeD} {n : Nat} (hd : dAt nodes n ≠ 0) : ∃ h : n < nodes.length, ∀ kid ∈ nodes[n].kids, 0 <= kid /\ kid < n /\ kid.toNat < n := by
 obtain ⟨h, hh⟩ := zjL (Zn nodes n hd)
 refine ⟨h, fun kid hk => ?_⟩
 obtain ⟨i, hi, rfl⟩ := List.getElem_of_mem hk
 exact hh i hi
theorem Reach.le {nodes : List NodeD} {n m : Nat} (h : Reach nodes n m) (hd : dAt nodes n ≠ 0) : m <= n := by
 induction h with
 | refl => exact Nat.le_refl _
 | @step m kid h hm hk ih =>
   obtain ⟨_, hh⟩ := zaz (YX nodes ih hd)
   have := hh kid hk
   omega
theorem Reach.head {nodes : List NodeD} {n m : Nat} (h : Reach nodes n m) : n = m \/ ∃ (hn : n < nodes.length) (kid : Int), kid ∈ nodes[n].kids /\ Reach nodes kid.toNat m := by
 induction h with
 | refl => exact Or.inl rfl
 | @step m kid h hm hk ih =>
   rcases ih with rfl | ⟨hn, k2, hk2, hr⟩
   · exact Or.inr ⟨hm, kid, hk, .refl _⟩
   · exact Or.inr ⟨hn, k2, hk2, .step hr hm hk⟩
open Classical in
noncomputable def zcb (nodes : List NodeD) (n : Nat) : List Nat := (List.range (n + 1)).filter fun m => decide (Reach nodes n m)
noncomputable def yU (nodes : List NodeD) (n : Nat) : List Int := (zcb nodes n).map fun (m : Nat) => (m : Int)
theorem yO {nodes : List NodeD} {n m : Nat} (hd : dAt nodes n ≠ 0) : m ∈ zcb nodes n ↔ Reach nodes n m := by
 unfold zcb
 simp only [List.mem_filter, List.mem_range, decide_eq_true_eq]
 exact ⟨fun h => h.2, fun h => ⟨by have := h.le hd; omega, h⟩⟩
theorem zfv (nodes : List NodeD) (n : Nat) : (zcb nodes n).Pairwise (· < ·) := List.Pairwise.filter _ List.pairwise_lt_range
theorem YG (nodes : List NodeD) (n : Nat) : (yU nodes n).Pairwise (· < ·) := by
 unfold yU
 rw [List.pairwise_map]
 exact (zfv nodes n).imp (fun h => by omega)
theorem zaL (nodes : List NodeD) (n : Nat) : (zcb nodes n).length <= n + 1 := by
 unfold zcb
 exact Nat.le_trans (List.length_filter_le _ _) (by simp)
def ints (l : List Nat) : List Int := l.map fun (m : Nat) => (m : Int)
theorem zK (l : List Nat) : (ints l).length = l.length := by simp [ints]
theorem zjM {l : List Nat} {m : Nat} : (m : Int) ∈ ints l ↔ m ∈ l := by
 unfold ints
 simp only [List.mem_map]
 exact ⟨fun ⟨a, ha, e⟩ => by have : a = m := by omega
                             rw [<- this]; exact ha, fun h => ⟨m, h, rfl⟩⟩
theorem zhz (l : List Nat) : (row1 cI (ints l)).take l.length = row1 cI (ints l) := by
 have := yx cI (ints l)
 rwa [zK] at this
theorem zjN {l : List Nat} {k : Int} (h : 0 <= k) : (ints l).contains k = l.contains k.toNat := by
 rw [Bool.eq_iff_iff]
 simp only [List.contains_iff_mem]
 have e : k = (k.toNat : Int) := by omega
 conv => lhs; rw [e]
 exact zjM
theorem zhA (l : List Nat) {k : Int} (h : 0 <= k) : row1 cI (ints l) ++ [[cI k]] = row1 cI (ints (l ++ [k.toNat])) := by
 have e : (k.toNat : Int) = k := by omega
 simp [row1, ints, e]
theorem zmt (l : List Nat) {i : Nat} (h : i < l.length) : (row1 cI (ints l))[i]? = some [cI (l[i] : Int)] := by simp [row1, ints, h]
theorem zba : ∀ {n : Nat} {l : List Nat}, l.Nodup -> (∀ x ∈ l, x < n) -> l.length <= n
 | 0, l, _, hl => by
   cases l with
   | nil => simp
   | cons x r => have := hl x List.mem_cons_self; omega
 | n + 1, l, h, hl => by
   by_cases hn : n ∈ l
   · have h1 := zba (n := n) (l := l.erase n) (h.erase n) (fun x hx => by
       have := h.mem_erase_iff.1 hx
       have h2 := hl x this.2
       have h3 := this.1
       omega)
     rw [List.length_erase_of_mem hn] at h1
     omega
   · have := zba (n := n) h (fun x hx => by
       have h2 := hl x hx
       have h3 : x ≠ n := fun e => hn (e ▸ hx)
       omega)
     omega
theorem zjF {l : List Nat} {n : Nat} (h : l.Nodup) (hl : ∀ x ∈ l, x <= n) : l.length <= n + 1 := zba h (fun x hx => by have := hl x hx; omega)
structure Work (nodes : List NodeD) (n : Nat) (l : List Nat) (i : Nat) : Prop where
 nodup : l.Nodup
 reach : ∀ x ∈ l, Reach nodes n x
 root : n ∈ l
 done : ∀ p (hp : p < l.length), p < i -> ∀ (hl : l[p] < nodes.length), ∀ kid ∈ nodes[l[p]].kids, kid.toNat ∈ l
 le : i <= l.length
theorem zam (nodes : List NodeD) (n : Nat) (hd : dAt nodes n ≠ 0) (hn : nodes.length <= 1048576) (hk : ∀ x ∈ nodes, x.kids.length <= 1048576) : zu Tryz.prog 80 [.ro (.imm 83 (rows (zg true) nodes)), .ro (.sc (.int .i64 n))] (fun rs st => rs = [(false, [.row false 3 (row1 cI (yU nodes n))])]) := by
 refine zm (fn := Tryz.f80) (c := Tryz.f80.body.getD .skip) (res := [.tm 4]) (n := 42) zf (by kernel_rfl) (by rfl) (by kernel_rfl) (by rfl) (by rfl) (by simp [zp]) (fun uf ub C hpin hpin2 hfull => ?_)
 simp only [Tryz.f80, Option.getD_some]
 obtain ⟨hnl, _⟩ := zaz hd
 refine Tri.step zf ?_
 simp +decide only [hpin, go_sem, reduceAdd, reduceMul]
 refine Tri.step zf ?_
 simp +decide only [hpin, go_sem, reduceAdd, reduceMul]
 refine Tri.step zf ?_
 simp +decide only [hpin, go_sem, reduceAdd, reduceMul]
 have e1 : row1 cI (ints [n]) = [[cI n]] := rfl
 refine Tri.loop (ι := List Nat × Nat) (fun q => Work nodes n q.1 q.2) (fun q => ⟨42, [(0, .imm 83 (rows (zg true) nodes)), (1, vI n), (5, .ref 5 [] q.1.length), (6, vI q.2)], [(5, .row 3 (row1 cI (ints q.1)))]⟩) (fun q => n + 1 - q.2) ([n], 0) ⟨by simp, fun x hx => by simp at hx; subst hx; exact .refl _, by simp, fun p hp hp2 => by omega, by simp⟩ ?_ ?_
 · refine Ent.weak ?_ ?_ ?_ ?_ <;> simp +decide [subT, subB, zk, zj, zl, St.get, look, vI, vB, vS, cI, cS, cB, zg, roI, ints, row1]
 · rintro ⟨l, i⟩ hW
   simp only at hW |-
   have hle : ∀ x ∈ l, x <= n := fun x hx => (hW.reach x hx).le hd
   have hll := zjF hW.nodup hle
   refine ze zf _ ?_
   by_cases h' : i < l.length
   · have e : ((i : Int) < (l.length : Int)) = True := by simp [h']
     have hli := hle l[i] (List.getElem_mem h')
     have hli2 : l[i] < nodes.length := by omega
     obtain ⟨_, hkid⟩ := zaz (YX nodes hli hd)
     have hc1 : ((l[i] : Int) < (nodes.length : Int)) = True := eq_true (by omega)
     have hkx := hk nodes[l[i]] (List.getElem_mem hli2)
     generalize hx : nodes[l[i]] = x at hkid hkx
     simp +decide only [e, hc1, h', zK, zmt l h', zh _ _ hli2, hx, zg, Int.natCast_nonneg, vB, vI, hpin, go_sem, reduceAdd, reduceMul]
     refine Tri.loop (ι := List Nat × Nat) (fun q => q.2 <= x.kids.length /\ Work nodes n q.1 i /\ l <+: q.1 /\ ∀ j (hj : j < x.kids.length), j < q.2 -> x.kids[j].toNat ∈ q.1) (fun q => ⟨42, [(0, .imm 83 (rows (zg true) nodes)), (1, vI n), (5, .ref 5 [] q.1.length), (6, vI i), (24, roI x.kids), (25, vI x.kids.length), (26, vI q.2)], [(5, .row 3 (row1 cI (ints q.1)))]⟩) (fun q => x.kids.length - q.2) (l, 0) ⟨by simp, hW, List.prefix_refl _, fun j hj h0 => by omega⟩ ?_ ?_
     · refine Ent.weak ?_ ?_ ?_ ?_ <;> simp +decide [subT, subB, zk, zj, zl, St.get, look, vI, vB, vS, cI, cS, cB, zg, roI]
     · rintro ⟨m, j⟩ ⟨hj, hV, hpre, hin⟩
       simp only at hj hV hpre hin |-
       have hle2 : ∀ x ∈ m, x <= n := fun x hx => (hV.reach x hx).le hd
       have hml := zjF hV.nodup hle2
       refine ze zf _ ?_
       have hmi : ∀ (h : i < m.length), m[i] = l[i] := fun h => by
         obtain ⟨t, rfl⟩ := hpre
         rw [List.getElem_append_left h']
       have hlm : l.length <= m.length := hpre.length_le
       by_cases hj' : j < x.kids.length
       · have e2 : ((j : Int) < (x.kids.length : Int)) = True := by simp [hj']
         obtain ⟨q0, q1, q2⟩ := hkid x.kids[j] (List.getElem_mem hj')
         simp +decide only [e2, zq _ _ hj', zK, Int.natCast_nonneg, vB, vI, hpin, go_sem, reduceAdd, reduceMul]
         refine zd (Yl (ints m) x.kids[j] (by rw [zK]; omega)) hpin ?_
         simp +decide only [zK, zhz, hpin, go_sem, reduceAdd, reduceMul]
         rw [zjN q0]
         cases hc : m.contains x.kids[j].toNat with
         | true =>
           simp +decide only [hc, hpin, go_sem, reduceAdd, reduceMul]
           refine ⟨(m, j + 1), ⟨hj', hV, hpre, fun a ha ha2 => ?_⟩, by simp only; omega, Ent.weak ?_ ?_ ?_ ?_⟩
           · by_cases ea : a = j
             · subst ea; simpa using hc
             · exact hin a ha (by omega)
           all_goals simp +decide [subT, subB, zk, zj, zl, St.get, look, vI, vB, vS, cI, cS, cB, zg, roI, w64s (n := x.kids.length) hj' (by omega)]
         | false =>
           have hb1 : m.length + 1 <= 140737488355328 := by omega
           have hb2 : (m.length + 1) * 8 <= 140737488355328 := by omega
           have hsn := zhA m q0
           simp +decide only [hc, zK, hb1, hb2, hpin, go_sem, reduceAdd, reduceMul]
           have hnm : x.kids[j].toNat ∉ m := by simpa using hc
           refine ⟨(m ++ [x.kids[j].toNat], j + 1), ⟨hj', ⟨?_, ?_, ?_, ?_, ?_⟩, hpre.trans (List.prefix_append _ _), fun a ha ha2 => ?_⟩, by simp only; omega, Ent.weak ?_ ?_ ?_ ?_⟩
           · rw [List.nodup_append]
             exact ⟨hV.nodup, by simp, fun a ha b hb => by simp at hb; subst hb; exact fun e => hnm (e ▸ ha)⟩
           · intro a ha
             rcases List.mem_append.1 ha with ha | ha
             · exact hV.reach a ha
             · simp at ha; subst ha
               exact .step (hW.reach l[i] (List.getElem_mem h')) hli2 (by rw [hx]; exact List.getElem_mem hj')
           · exact List.mem_append_left _ hV.root
           · intro p hp hp2 hl kid hkk
             have hpm : p < m.length := by omega
             rw [List.getElem_append_left hpm] at hl
             have e5 : (m ++ [x.kids[j].toNat])[p] = m[p] := List.getElem_append_left hpm
             simp only [e5] at hkk
             exact List.mem_append_left _ (hV.done p hpm hp2 hl kid hkk)
           · simp; omega
           · by_cases ea : a = j
             · subst ea; simp
             · exact List.mem_append_left _ (hin a ha (by omega))
           all_goals simp +decide [subT, subB, zk, zj, zl, St.get, look, vI, vB, vS, cI, cS, cB, zg, roI, w64s (n := x.kids.length) hj' (by omega), <- hsn, row1, ints, Int.max_eq_left q0]
       · have hjl : j = x.kids.length := by omega
         subst hjl
         have e2 : ((x.kids.length : Int) < (x.kids.length : Int)) = False := by simp
         simp +decide only [e2, vB, vI, hpin, go_sem, reduceAdd, reduceMul]
         refine ⟨(m, i + 1), ⟨hV.nodup, hV.reach, hV.root, fun p hp hp2 hl kid hkk => ?_, by simp only; omega⟩, by simp only; omega, Ent.weak ?_ ?_ ?_ ?_⟩
         · by_cases ep : p = i
           · subst ep
             simp only [hmi hp] at hl hkk
             rw [hx] at hkk
             obtain ⟨a, ha, rfl⟩ := List.getElem_of_mem hkk
             exact hin a ha ha
           · exact hV.done p hp (by omega) hl kid hkk
         all_goals simp +decide [subT, subB, zk, zj, zl, St.get, look, vI, vB, vS, cI, cS, cB, zg, roI, w64s (n := l.length) h' (by omega)]
   · have hil : i = l.length := by have := hW.le; omega
     subst hil
     have e : ((l.length : Int) < (l.length : Int)) = False := by simp
     have hs : xB (ints l) = yU nodes n := by
       refine zgN ?_ (YG nodes n) (fun z => ?_)
       · unfold ints
         exact List.Pairwise.map _ (fun a b hab h => hab (by omega)) hW.nodup
       · have key : ∀ m, Reach nodes n m -> m ∈ l := fun m hm => by
           induction hm with
           | refl => exact hW.root
           | @step m kid h hm hk ih =>
             obtain ⟨p, hp, rfl⟩ := List.getElem_of_mem ih
             exact hW.done p hp hp hm kid hk
         unfold ints yU
         simp only [List.mem_map]
         exact ⟨fun ⟨m, hm, he⟩ => ⟨m, (yO hd).2 (hW.reach m hm), he⟩, fun ⟨m, hm, he⟩ => ⟨m, key m ((yO hd).1 hm), he⟩⟩
     have hul : (yU nodes n).length = l.length := by rw [<- hs, yW, zK]
     simp +decide only [e, vB, vI, hpin, go_sem, reduceAdd, reduceMul]
     refine Tri.step zf ?_
     simp +decide only [zK, hpin, go_sem, reduceAdd, reduceMul]
     refine YF (zad (ints l) (by rw [zK]; omega)) hpin [(2000, 5)] ⟨rfl, rfl, rfl⟩ (fun uf => ⟨rfl, rfl⟩) (fun uf => ?_) ?_
     · simp +decide only [zK, go_sem, reduceAdd, reduceMul]
     simp +decide only [zK, yW, hs, hul, hpin, go_sem, reduceAdd, reduceMul]
     refine ze zf _ ?_
     simp +decide only [zK, hul, hpin, go_sem, reduceAdd, reduceMul]
noncomputable def zI (nodes : List NodeD) (k : Int) : List Int := if zQ nodes k == 0 then [] else yU nodes k.toNat
theorem Zm {nodes : List NodeD} {k : Int} (h : (zQ nodes k == 0) = false) : ∃ n : Nat, k = n /\ n < nodes.length /\ dAt nodes n ≠ 0 := by
 have hd : zQ nodes k ≠ 0 := by simpa using h
 unfold zQ at hd
 cases h0 : inI k 0 (nodes.length - 1) with
 | false => simp [h0] at hd
 | true =>
   have hr := zx h0
   rw [h0, if_pos rfl] at hd
   exact ⟨k.toNat, by omega, by omega, hd⟩
theorem yF {nodes : List NodeD} {k x : Int} (h : x ∈ zI nodes k) : 0 <= x /\ x.toNat < nodes.length /\ Reach nodes k.toNat x.toNat := by
 unfold zI at h
 cases hd : zQ nodes k == 0 with
 | true => simp [hd] at h
 | false =>
   obtain ⟨n, rfl, hn, hdn⟩ := Zm hd
   simp only [hd, Bool.false_eq_true, if_false, yU, List.mem_map] at h
   obtain ⟨m, hm, rfl⟩ := h
   have hr := (yO hdn).1 hm
   have := hr.le hdn
   exact ⟨by omega, by simp; omega, by simpa using hr⟩
theorem yu (nodes : List NodeD) (k : Int) : (zI nodes k).length <= nodes.length := by
 unfold zI
 cases hd : zQ nodes k == 0 with
 | true => simp
 | false =>
   obtain ⟨n, rfl, hn, hdn⟩ := Zm hd
   have := zaL nodes n
   simp [yU]; omega
theorem Xl (p : ProgramD) (k : Int) (hn : p.nodes.length <= 1048576) (hk : ∀ x ∈ p.nodes, x.kids.length <= 1048576) : zu Tryz.prog 147 [.ro (zb p), .ro (.sc (.int .i64 k))] (fun rs st => rs = [(false, [.row false 3 (row1 cI (zI p.nodes k))])]) := by
 refine zm (fn := Tryz.f147) (c := Tryz.f147.body.getD .skip) (res := [.tm 4]) (n := 14) zf (by kernel_rfl) (by rfl) (by kernel_rfl) (by rfl) (by rfl) (by simp [zp]) (fun uf ub C hpin hpin2 hfull => ?_)
 simp only [Tryz.f147, Option.getD_some]
 refine Tri.step zf ?_
 simp +decide only [zb, za, hpin, go_sem, reduceAdd, reduceMul]
 refine Tri.ent ?_ (Ent.frb hfull 2)
 refine Tri.step zf ?_
 simp +decide only [zb, za, hpin, go_sem, reduceAdd, reduceMul]
 refine zd (zaI p.nodes k hn hk) hpin ?_
 simp +decide only [zb, za, hpin, go_sem, reduceAdd, reduceMul]
 cases hd : zQ p.nodes k == 0 with
 | true =>
   have hu : zI p.nodes k = [] := by simp [zI, hd]
   have e0 : row1 cI ([] : List Int) = [] := rfl
   simp +decide only [hu, e0, hpin, go_sem, reduceAdd, reduceMul]
 | false =>
   obtain ⟨n, rfl, hnl, hdn⟩ := Zm hd
   have hu : zI p.nodes n = yU p.nodes n := by simp [zI, hd]
   rw [hu]
   simp +decide only [zb, za, hpin, go_sem, reduceAdd, reduceMul]
   refine ze zf _ ?_
   simp +decide only [zb, za, hpin, go_sem, reduceAdd, reduceMul]
   refine zd (zam p.nodes n hdn hn hk) hpin ?_
   simp +decide only [zb, za, hpin, go_sem, reduceAdd, reduceMul]
noncomputable def znt (nodes : List NodeD) (kinds : List Int) (k : Int) : Bool := (zI nodes k).all (fun x => kinds.contains (nAt nodes x).kind) && !(zQ nodes k == 0)
theorem ziy (p : ProgramD) (k : Int) (kinds : List Int) (hkl : kinds.length <= 1048576) (hn : p.nodes.length <= 1048576) (hk : ∀ x ∈ p.nodes, x.kids.length <= 1048576) : zu Tryz.prog 149 [.ro (zb p), .ro (.sc (.int .i64 k)), .ro (roI kinds)] (fun rs st => rs = [(false, [cB (znt p.nodes kinds k)])]) := by
 refine zm (fn := Tryz.f149) (c := Tryz.f149.body.getD .skip) (res := [.tm 6]) (n := 32) zf (by kernel_rfl) (by rfl) (by kernel_rfl) (by rfl) (by rfl) (by simp [zp]) (fun uf ub C hpin hpin2 hfull => ?_)
 simp only [Tryz.f149, Option.getD_some]
 refine Tri.step zf ?_
 simp +decide only [zb, za, hpin, go_sem, reduceAdd, reduceMul]
 refine Tri.ent ?_ (Ent.frb hfull 3)
 refine Tri.step zf ?_
 simp +decide only [zb, za, hpin, go_sem, reduceAdd, reduceMul]
 refine zd (Xl p k hn hk) hpin ?_
 simp +decide only [zb, za, hpin, go_sem, reduceAdd, reduceMul]
 have hul := yu p.nodes k
 have hmem : ∀ i (hi : i < (zI p.nodes k).length), 0 <= (zI p.nodes k)[i] /\ (zI p.nodes k)[i].toNat < p.nodes.length := fun i hi => by
   have := yF (List.getElem_mem hi)
   exact ⟨this.1, this.2.1⟩
 have hne : (0 < ((zI p.nodes k).length : Int)) = !(zQ p.nodes k == 0) := by
   unfold zI
   cases hd : zQ p.nodes k == 0 with
   | true => simp
   | false =>
     obtain ⟨n, rfl, hnl, hdn⟩ := Zm hd
     have h1 := (yO hdn).2 (Reach.refl n)
     have h2 := List.length_pos_of_mem h1
     simp [yU]; exact h2
 unfold znt
 generalize hl : zI p.nodes k = l at hul hmem hne |-
 generalize (zQ p.nodes k == 0) = z at hne |-
 refine Tri.ent ?_ (Ent.frz hfull 7)
 refine Tri.step zf ?_
 simp +decide only [zb, za, hpin, go_sem, reduceAdd, reduceMul]
 refine Tri.loop (ι := Nat) (fun i => i <= l.length /\ (l.take i).all (fun x => kinds.contains (nAt p.nodes x).kind) = true) (fun i => ⟨32, [(2, roI kinds), (3, .ip (za true p) 0), (7, roI l), (13, roI l), (14, vI l.length), (15, vI i)], []⟩) (fun i => l.length - i) 0 (by simp) ?_ ?_
 · refine Ent.weak ?_ ?_ ?_ ?_ <;> simp +decide [subT, subB, zk, zj, zl, St.get, look, vI, vB, vS, cI, cS, cB, zg, roI, za]
 · rintro i ⟨hi, hq⟩
   refine ze zf _ ?_
   by_cases h' : i < l.length
   · have e : ((i : Int) < (l.length : Int)) = True := by simp [h']
     obtain ⟨g0, g1⟩ := hmem i h'
     have z0 : (0 <= l[i]) = True := eq_true g0
     have z1 : (l[i] < (p.nodes.length : Int)) = True := eq_true (by omega)
     have hat : nAt p.nodes l[i] = p.nodes[l[i].toNat] := xz g1
     simp +decide only [e, z0, z1, zq _ _ h', zh _ _ g1, zg, za, Int.natCast_nonneg, vB, vI, hpin, go_sem, reduceAdd, reduceMul]
     refine zd (Yl kinds p.nodes[l[i].toNat].kind (by omega)) hpin ?_
     simp +decide only [zb, za, hpin, go_sem, reduceAdd, reduceMul]
     cases hc : kinds.contains p.nodes[l[i].toNat].kind with
     | false =>
       have hf : l.all (fun x => kinds.contains (nAt p.nodes x).kind) = false := by
         rw [List.all_eq_false]; exact ⟨l[i], List.getElem_mem h', by simp only [hat, hc]; decide⟩
       simp +decide only [hf, hpin, go_sem, reduceAdd, reduceMul]
     | true =>
       simp +decide only [zb, za, hpin, go_sem, reduceAdd, reduceMul]
       refine ⟨i + 1, ⟨h', ?_⟩, by omega, Ent.weak ?_ ?_ ?_ ?_⟩
       · rw [List.take_succ_eq_append_getElem h', List.all_append, hq]
         simp only [List.all_cons, List.all_nil, hat, hc]; rfl
       all_goals simp +decide [subT, subB, zk, zj, zl, St.get, look, vI, vB, vS, cI, cS, cB, zg, roI, za, w64s (n := l.length) h' (by omega)]
   · have hil : i = l.length := by omega
     subst hil
     have e : ((l.length : Int) < (l.length : Int)) = False := by simp
     rw [List.take_length] at hq
     simp +decide only [e, hq, vB, vI, za, hpin, go_sem, reduceAdd, reduceMul]
     refine ze zf _ ?_
     simp +decide only [hne, Bool.decide_eq_true, hpin, go_sem, reduceAdd, reduceMul]
def yP (still : Bool) (kind : Int) : Bool := kind == 1 || kind == 2 || kind == 10 || kind == 11 || (!still && (kind == 3 || kind == 9))
open Classical in
noncomputable def Zf (nodes : List NodeD) (still : Bool) (k : Int) : Bool := !(zQ nodes k == 0) && decide (∀ m, Reach nodes k.toNat m -> yP still (nAt nodes m).kind = true)
open Classical in
theorem zkJ {nodes : List NodeD} {kinds : List Int} {still : Bool} (h : ∀ c, kinds.contains c = yP still c) (k : Int) : znt nodes kinds k = Zf nodes still k := by
 unfold znt Zf
 rw [Bool.and_comm]
 cases hd : zQ nodes k == 0 with
 | true => rfl
 | false =>
   simp only [Bool.not_false, Bool.true_and]
   obtain ⟨n, rfl, hnl, hdn⟩ := Zm hd
   rw [Bool.eq_iff_iff, decide_eq_true_iff, List.all_eq_true]
   simp only [zI, hd, Bool.false_eq_true, if_false, Int.toNat_natCast, h]
   constructor
   · intro hh m hm
     exact hh m (List.mem_map.2 ⟨m, (yO hdn).2 hm, rfl⟩)
   · intro hh x hx
     obtain ⟨m, hm, rfl⟩ := List.mem_map.1 hx
     exact hh m ((yO hdn).1 hm)
open Classical in
theorem zdB (nodes : List NodeD) (still : Bool) (hn : nodes.length <= 1048576) (hk : ∀ x ∈ nodes, x.kids.length <= 1048576) (n : Nat) : dAt nodes n ≠ 0 -> zu Tryz.prog 138 [.ro (.imm 83 (rows (zg true) nodes)), .ro (.sc (.int .i64 n)), .ro (.sc (.bool still))] (fun rs st => rs = [(false, [cB (decide (∀ m, Reach nodes n m -> yP still (nAt nodes m).kind = true))])]) := by
 induction n using Nat.strongRecOn with
 | ind n ih =>
 intro hd
 obtain ⟨hnl, hkid⟩ := zaz hd
 have hkx := hk nodes[n] (List.getElem_mem hnl)
 have hat : nAt nodes (n : Int) = nodes[n] := zF hnl
 have own : yP still nodes[n].kind = false -> decide (∀ m, Reach nodes n m -> yP still (nAt nodes m).kind = true) = false := fun hq => by
   rw [decide_eq_false_iff_not]
   intro hall
   have := hall n (.refl n)
   rw [hat, hq] at this; cases this
 have sub : ∀ kid ∈ nodes[n].kids, decide (∀ m, Reach nodes kid.toNat m -> yP still (nAt nodes m).kind = true) = false -> decide (∀ m, Reach nodes n m -> yP still (nAt nodes m).kind = true) = false := fun kid hkk hq => by
   rw [decide_eq_false_iff_not] at hq |-
   intro hall
   exact hq (fun m hm => hall m ((Reach.step (.refl n) hnl hkk).trans hm))
 have all : yP still nodes[n].kind = true -> (∀ kid ∈ nodes[n].kids, ∀ m, Reach nodes kid.toNat m -> yP still (nAt nodes m).kind = true) -> decide (∀ m, Reach nodes n m -> yP still (nAt nodes m).kind = true) = true := fun hq hh => by
   rw [decide_eq_true_iff]
   intro m hm
   rcases hm.head with rfl | ⟨_, kid, hkk, hr⟩
   · rw [hat]; exact hq
   · exact hh kid hkk m hr
 have hrec : ∀ kid ∈ nodes[n].kids, zu Tryz.prog 138 [.ro (.imm 83 (rows (zg true) nodes)), .ro (.sc (.int .i64 kid)), .ro (.sc (.bool still))] (fun rs st => rs = [(false, [cB (decide (∀ m, Reach nodes kid.toNat m -> yP still (nAt nodes m).kind = true))])]) := fun kid hkk => by
   obtain ⟨q0, q1, q2⟩ := hkid kid hkk
   have e : kid = (kid.toNat : Int) := by omega
   have := ih kid.toNat q2 (YX nodes (by omega) hd)
   rw [<- e] at this
   exact this
 generalize hx : nodes[n] = x at hkx hkid own sub all hrec
 generalize hR : decide (∀ m, Reach nodes n m -> yP still (nAt nodes m).kind = true) = R at own sub all
 have hc1 : ((n : Int) < (nodes.length : Int)) = True := eq_true (by omega)
 refine zm (fn := Tryz.f138) (c := Tryz.f138.body.getD .skip) (res := [.tm 6]) (n := 40) zf (by kernel_rfl) (by rfl) (by kernel_rfl) (by rfl) (by rfl) (by simp [zp]) (fun uf ub C hpin hpin2 hfull => ?_)
 simp only [Tryz.f138, Option.getD_some]
 refine Tri.step zf ?_
 simp +decide only [hpin, go_sem, reduceAdd, reduceMul]
 refine Tri.step zf ?_
 simp +decide only [hc1, zh _ _ hnl, hx, zg, Int.natCast_nonneg, hpin, go_sem, reduceAdd, reduceMul]
 refine Tri.ent ?_ (Ent.frb hfull 7)
 cases hq : yP still x.kind with
 | false =>
   have hRf := own hq
   have n1 : (x.kind == 1) = false := by cases h : x.kind == 1 with | false => rfl | true => simp [yP, h] at hq
   have n2 : (x.kind == 2) = false := by cases h : x.kind == 2 with | false => rfl | true => simp [yP, h] at hq
   have n10 : (x.kind == 10) = false := by cases h : x.kind == 10 with | false => rfl | true => simp [yP, h] at hq
   have n11 : (x.kind == 11) = false := by cases h : x.kind == 11 with | false => rfl | true => simp [yP, h] at hq
   refine Tri.step zf ?_
   simp +decide only [n1, n2, n10, n11, hRf, hpin, go_sem, reduceAdd, reduceMul]
   cases h3 : x.kind == 3 with
   | true =>
     have hst : still = true := by cases still with | true => rfl | false => simp [yP, h3] at hq
     simp +decide only [hst, hRf, h3, hpin, go_sem, reduceAdd, reduceMul]
   | false =>
     simp +decide only [h3, hpin, go_sem, reduceAdd, reduceMul]
     cases h9 : x.kind == 9 with
     | true =>
       have hst : still = true := by cases still with | true => rfl | false => simp [yP, h9] at hq
       simp +decide only [hst, hRf, h9, hpin, go_sem, reduceAdd, reduceMul]
     | false => simp +decide only [hRf, h9, hpin, go_sem, reduceAdd, reduceMul]
 | true =>
 refine Tri.stop zf ⟨40, [(0, .imm 83 (rows (zg true) nodes)), (1, vI n), (2, vB still), (6, vB false), (7, .ip (zg true x) 0)], []⟩ ?_ ?_
 · simp +decide only [hpin, go_sem, reduceAdd, reduceMul]
   cases h1 : x.kind == 1 with
   | true => simp +decide only [h1, hpin, go_sem, reduceAdd, reduceMul]; refine Ent.weak ?_ ?_ ?_ ?_ <;> simp +decide [subT, subB, zk, zj, zl, St.get, look, vI, vB, vS, cI, cS, cB, zg, roI]
   | false =>
   simp +decide only [h1, hpin, go_sem, reduceAdd, reduceMul]
   cases h2 : x.kind == 2 with
   | true => simp +decide only [h2, hpin, go_sem, reduceAdd, reduceMul]; refine Ent.weak ?_ ?_ ?_ ?_ <;> simp +decide [subT, subB, zk, zj, zl, St.get, look, vI, vB, vS, cI, cS, cB, zg, roI]
   | false =>
   simp +decide only [h2, hpin, go_sem, reduceAdd, reduceMul]
   cases h10 : x.kind == 10 with
   | true => simp +decide only [h10, hpin, go_sem, reduceAdd, reduceMul]; refine Ent.weak ?_ ?_ ?_ ?_ <;> simp +decide [subT, subB, zk, zj, zl, St.get, look, vI, vB, vS, cI, cS, cB, zg, roI]
   | false =>
   simp +decide only [h10, hpin, go_sem, reduceAdd, reduceMul]
   cases h11 : x.kind == 11 with
   | true => simp +decide only [h11, hpin, go_sem, reduceAdd, reduceMul]; refine Ent.weak ?_ ?_ ?_ ?_ <;> simp +decide [subT, subB, zk, zj, zl, St.get, look, vI, vB, vS, cI, cS, cB, zg, roI]
   | false =>
   have hst : still = false := by cases still with | false => rfl | true => simp [yP, h1, h2, h10, h11] at hq
   simp +decide only [h11, hst, hpin, go_sem, reduceAdd, reduceMul]
   cases h3 : x.kind == 3 with
   | true => simp +decide only [h3, hpin, go_sem, reduceAdd, reduceMul]; refine Ent.weak ?_ ?_ ?_ ?_ <;> simp +decide [subT, subB, zk, zj, zl, St.get, look, vI, vB, vS, cI, cS, cB, zg, roI, hst]
   | false =>
   simp +decide only [h3, hpin, go_sem, reduceAdd, reduceMul]
   cases h9 : x.kind == 9 with
   | true => simp +decide only [h9, hpin, go_sem, reduceAdd, reduceMul]; refine Ent.weak ?_ ?_ ?_ ?_ <;> simp +decide [subT, subB, zk, zj, zl, St.get, look, vI, vB, vS, cI, cS, cB, zg, roI, hst]
   | false => simp [yP, hst, h1, h2, h10, h11, h3, h9] at hq
 refine ze zf _ ?_
 simp +decide only [vB, vI, hpin, go_sem, reduceAdd, reduceMul]
 refine Tri.loop (ι := Nat) (fun i => i <= x.kids.length /\ ∀ j (hj : j < x.kids.length), j < i -> ∀ m, Reach nodes x.kids[j].toNat m -> yP still (nAt nodes m).kind = true) (fun i => ⟨40, [(0, .imm 83 (rows (zg true) nodes)), (1, vI n), (2, vB still), (6, vB false), (7, .ip (zg true x) 0), (8, vI i)], []⟩) (fun i => x.kids.length - i) 0 ⟨by simp, fun j hj h0 => by omega⟩ ?_ ?_
 · refine Ent.weak ?_ ?_ ?_ ?_ <;> simp +decide [subT, subB, zk, zj, zl, St.get, look, vI, vB, vS, cI, cS, cB, zg, roI]
 · rintro i ⟨hi, hq2⟩
   refine ze zf _ ?_
   by_cases h' : i < x.kids.length
   · have e : ((i : Int) < (x.kids.length : Int)) = True := by simp [h']
     have hmem := List.getElem_mem h'
     simp +decide only [e, zq _ _ h', zg, Int.natCast_nonneg, vB, vI, hpin, go_sem, reduceAdd, reduceMul]
     refine zd (hrec x.kids[i] hmem) hpin ?_
     simp +decide only [hpin, go_sem, reduceAdd, reduceMul]
     cases hc : decide (∀ m, Reach nodes x.kids[i].toNat m -> yP still (nAt nodes m).kind = true) with
     | false =>
       have hRf := sub _ hmem hc
       simp +decide only [hRf, hpin, go_sem, reduceAdd, reduceMul]
     | true =>
       simp +decide only [hpin, go_sem, reduceAdd, reduceMul]
       refine ⟨i + 1, ⟨h', fun j hj hj2 => ?_⟩, by omega, Ent.weak ?_ ?_ ?_ ?_⟩
       · by_cases ej : j = i
         · subst ej; exact of_decide_eq_true hc
         · exact hq2 j hj (by omega)
       all_goals simp +decide [subT, subB, zk, zj, zl, St.get, look, vI, vB, vS, cI, cS, cB, zg, roI, w64s (n := x.kids.length) h' (by omega)]
   · have hil : i = x.kids.length := by omega
     subst hil
     have e : ((x.kids.length : Int) < (x.kids.length : Int)) = False := by simp
     have hRt : R = true := all hq (fun kid hkk m hm => by
       obtain ⟨j, hj, rfl⟩ := List.getElem_of_mem hkk
       exact hq2 j hj hj m hm)
     simp +decide only [e, hRt, zg, vB, vI, hpin, go_sem, reduceAdd, reduceMul]
theorem ziI (c : Int) : ([1, 2, 10, 11] : List Int).contains c = yP true c := by
 simp only [yP, List.contains_cons, List.contains_nil, Bool.or_false, Bool.not_true, Bool.false_and]
 cases c == 1 <;> cases c == 2 <;> cases c == 10 <;> cases c == 11 <;> rfl
open Classical in
theorem zon (p : ProgramD) (k : Int) (hn : p.nodes.length <= 1048576) (hk : ∀ x ∈ p.nodes, x.kids.length <= 1048576) : zu Tryz.prog 59 [.ro (zb p), .ro (.sc (.int .i64 k))] (fun rs st => rs = [(false, [cB (Zf p.nodes false k)])]) := by
 refine zm (fn := Tryz.f59) (c := Tryz.f59.body.getD .skip) (res := [.tm 4]) (n := 16) zf (by kernel_rfl) (by rfl) (by kernel_rfl) (by rfl) (by rfl) (by simp [zp]) (fun uf ub C hpin hpin2 hfull => ?_)
 simp only [Tryz.f59, Option.getD_some]
 refine Tri.step zf ?_
 simp +decide only [zb, za, hpin, go_sem, reduceAdd, reduceMul]
 refine Tri.ent ?_ (Ent.frb hfull 2)
 refine ze zf _ ?_
 simp +decide only [zb, za, hpin, go_sem, reduceAdd, reduceMul]
 refine zd (XD p.nodes k hn hk) hpin ?_
 have hge : 0 <= zQ p.nodes k := by
   unfold zQ
   split
   · exact (zaH _ _ _).1
   · exact Int.le_refl 0
 cases hd : zQ p.nodes k == 0 with
 | true =>
   have h0 : zQ p.nodes k = 0 := by simpa using hd
   have hq : Zf p.nodes false k = false := by simp [Zf, hd]
   simp +decide only [h0, hq, hpin, go_sem, reduceAdd, reduceMul]
 | false =>
   have h9 : zQ p.nodes k ≠ 0 := by simpa using hd
   have h0 : (0 < zQ p.nodes k) = True := eq_true (by omega)
   obtain ⟨n, rfl, hnl, hdn⟩ := Zm hd
   simp +decide only [h0, za, hpin, go_sem, reduceAdd, reduceMul]
   refine zd (zdB p.nodes false hn hk n hdn) hpin ?_
   have hq : Zf p.nodes false n = decide (∀ m, Reach p.nodes n m -> yP false (nAt p.nodes m).kind = true) := by simp [Zf, hd]
   simp +decide only [h0, hq, za, hpin, go_sem, reduceAdd, reduceMul]
theorem zgL (p : ProgramD) (k : Int) (hn : p.nodes.length <= 1048576) (hk : ∀ x ∈ p.nodes, x.kids.length <= 1048576) : zu Tryz.prog 83 [.ro (zb p), .ro (.sc (.int .i64 k))] (fun rs st => rs = [(false, [cB (Zf p.nodes true k)])]) := by
 refine zm (fn := Tryz.f83) (c := Tryz.f83.body.getD .skip) (res := [.tm 4]) (n := 9) zf (by kernel_rfl) (by rfl) (by kernel_rfl) (by rfl) (by rfl) (by simp [zp]) (fun uf ub C hpin hpin2 hfull => ?_)
 simp only [Tryz.f83, Option.getD_some]
 refine Tri.step zf ?_
 simp +decide only [zb, za, hpin, go_sem, reduceAdd, reduceMul]
 refine Tri.ent ?_ (Ent.frb hfull 2)
 refine ze zf _ ?_
 simp +decide only [zb, za, hpin, go_sem, reduceAdd, reduceMul]
 refine zd (ziy p k [1, 2, 10, 11] (by decide) hn hk) hpin ?_
 simp +decide only [zb, za, row1, zkJ ziI k, hpin, go_sem, reduceAdd, reduceMul]
 rfl
open Classical in
theorem zgK (p : ProgramD) (k : Int) (hn : p.nodes.length <= 1048576) (hk : ∀ x ∈ p.nodes, x.kids.length <= 1048576) : zu Tryz.prog 76 [.ro (zb p), .ro (.sc (.int .i64 k))] (fun rs st => rs = [(false, [cB (Zf p.nodes true k)])]) := by
 refine zm (fn := Tryz.f76) (c := Tryz.f76.body.getD .skip) (res := [.tm 4]) (n := 16) zf (by kernel_rfl) (by rfl) (by kernel_rfl) (by rfl) (by rfl) (by simp [zp]) (fun uf ub C hpin hpin2 hfull => ?_)
 simp only [Tryz.f76, Option.getD_some]
 refine Tri.step zf ?_
 simp +decide only [zb, za, hpin, go_sem, reduceAdd, reduceMul]
 refine Tri.ent ?_ (Ent.frb hfull 2)
 refine ze zf _ ?_
 simp +decide only [zb, za, hpin, go_sem, reduceAdd, reduceMul]
 refine zd (XD p.nodes k hn hk) hpin ?_
 have hge : 0 <= zQ p.nodes k := by
   unfold zQ
   split
   · exact (zaH _ _ _).1
   · exact Int.le_refl 0
 cases hd : zQ p.nodes k == 0 with
 | true =>
   have h0 : zQ p.nodes k = 0 := by simpa using hd
   have hq : Zf p.nodes true k = false := by simp [Zf, hd]
   simp +decide only [h0, hq, hpin, go_sem, reduceAdd, reduceMul]
 | false =>
   have h9 : zQ p.nodes k ≠ 0 := by simpa using hd
   have h0 : (0 < zQ p.nodes k) = True := eq_true (by omega)
   obtain ⟨n, rfl, hnl, hdn⟩ := Zm hd
   simp +decide only [h0, za, hpin, go_sem, reduceAdd, reduceMul]
   refine zd (zdB p.nodes true hn hk n hdn) hpin ?_
   have hq : Zf p.nodes true n = decide (∀ m, Reach p.nodes n m -> yP true (nAt p.nodes m).kind = true) := by simp [Zf, hd]
   simp +decide only [h0, hq, za, hpin, go_sem, reduceAdd, reduceMul]
theorem zhb {p : ProgramD} (h : zE p <= 1048576) : p.nodes.length <= 1048576 /\ ∀ x ∈ p.nodes, x.kids.length <= 1048576 := by
 unfold zE at h
 refine ⟨by omega, fun y hy => ?_⟩
 obtain ⟨i, hi, rfl⟩ := List.getElem_of_mem hy
 have h1 := ZB zB hi
 have h3 : p.nodes[i].kids.length <= zB p.nodes[i] := by unfold zB; omega
 omega
open Classical in
noncomputable def ofP (n : Nat) (P : Nat -> Prop) : List Bool := (List.range n).map fun m => decide (P m)
theorem zM (n : Nat) (P : Nat -> Prop) : (ofP n P).length = n := by simp [ofP]
open Classical in
theorem XQ {n : Nat} {P : Nat -> Prop} {i : Nat} (h : i < n) : (row1 cB (ofP n P))[i]? = some [cB (decide (P i))] := by simp [row1, ofP, h]
open Classical in
theorem zoY {n : Nat} {P : Nat -> Prop} {i : Nat} (h : i < n) : (row1 cB (ofP n P)).getD i [] = [cB (decide (P i))] := by simp [List.getD, XQ h]
theorem zaY {n : Nat} {P Q : Nat -> Prop} (h : ∀ m, m < n -> (P m ↔ Q m)) : ofP n P = ofP n Q := by
 unfold ofP
 apply List.map_congr_left
 intro m hm
 exact decide_eq_decide.2 (h m (List.mem_range.1 hm))
theorem zlZ {n : Nat} {P : Nat -> Prop} {i : Nat} (h : i < n) : (row1 cB (ofP n P)).set i [cB true] = row1 cB (ofP n (fun m => P m \/ m = i)) := by
 apply List.ext_getElem?
 intro j
 by_cases hj : j < n
 · rw [XQ hj]
   by_cases e : i = j
   · subst e
     rw [List.getElem?_set_self (by rw [zS, zM]; exact h)]
     simp
   · rw [List.getElem?_set_ne e, XQ hj]
     congr 3
     exact decide_eq_decide.2 ⟨Or.inl, fun hh => hh.elim id (fun he => (e he.symm).elim)⟩
 · rw [List.getElem?_eq_none (by rw [List.length_set, zS, zM]; omega), List.getElem?_eq_none (by rw [zS, zM]; omega)]
theorem zma (n : Nat) : List.replicate n [cB false] = row1 cB (ofP n (fun _ => False)) := by
 apply List.ext_getElem?
 intro j
 by_cases hj : j < n
 · rw [XQ hj]; simp [hj]
 · rw [List.getElem?_eq_none (by simp; omega), List.getElem?_eq_none (by rw [zS, zM]; omega)]
theorem zkN (nodes : List NodeD) (hn : nodes.length <= 1048576) (hk : ∀ x ∈ nodes, x.kids.length <= 1048576) (n : Nat) : dAt nodes n ≠ 0 -> ∀ P : Nat -> Prop, (∀ m, m <= n -> P m -> ∀ q, Reach nodes m q -> P q) ->
   SoundAt Tryz.prog 152 (fun uf => zp 0 [.ro (.imm 83 (rows (zg true) nodes)), .ro (.sc (.int .i64 n)), .ro (.ref 2000 [] nodes.length)]) [(2000, .row 4 (row1 cB (ofP nodes.length P)))]
     (fun rs st => rs = [] /\ xK st.ob [(2000, .row 4 (row1 cB (ofP nodes.length (fun m => P m \/ Reach nodes n m))))]) := by
 classical
 induction n using Nat.strongRecOn with
 | ind n ih =>
 intro hd P hP
 obtain ⟨hnl, hkid⟩ := zaz hd
 have hkx := hk nodes[n] (List.getElem_mem hnl)
 have hrec : ∀ kid ∈ nodes[n].kids, ∀ Q : Nat -> Prop, (∀ m, m <= kid.toNat -> Q m -> ∀ q, Reach nodes m q -> Q q) ->
   SoundAt Tryz.prog 152 (fun uf => zp 0 [.ro (.imm 83 (rows (zg true) nodes)), .ro (.sc (.int .i64 kid)), .ro (.ref 2000 [] nodes.length)]) [(2000, .row 4 (row1 cB (ofP nodes.length Q)))]
     (fun rs st => rs = [] /\ xK st.ob [(2000, .row 4 (row1 cB (ofP nodes.length (fun m => Q m \/ Reach nodes kid.toNat m))))]) := fun kid hkk Q hQ => by
   obtain ⟨q0, q1, q2⟩ := hkid kid hkk
   have e : kid = (kid.toNat : Int) := by omega
   have := ih kid.toNat q2 (YX nodes (by omega) hd) Q hQ
   rw [<- e] at this
   exact this
 have hsub : ∀ kid ∈ nodes[n].kids, ∀ m, Reach nodes kid.toNat m -> Reach nodes n m := fun kid hkk m hm => (Reach.step (.refl n) hnl hkk).trans hm
 have hall : ∀ m, Reach nodes n m -> n = m \/ ∃ kid, kid ∈ nodes[n].kids /\ Reach nodes kid.toNat m := fun m hm => by
   rcases hm.head with h | ⟨_, kid, h1, h2⟩
   · exact Or.inl h
   · exact Or.inr ⟨kid, h1, h2⟩
 generalize hx : nodes[n] = x at hkx hkid hrec hsub hall
 have hc1 : ((n : Int) < (nodes.length : Int)) = True := eq_true (by omega)
 refine yH (fn := Tryz.f152) (c := Tryz.f152.body.getD .skip) (res := []) (n := 35) zf (by kernel_rfl) (by rfl) (by kernel_rfl) (by rfl) (by rfl) (by simp [zp]) (fun uf ub C hpin hpin2 hfull => ?_)
 simp +decide only [Tryz.f152, hc1, hnl, XQ hnl, Int.natCast_nonneg, zM, hpin, hpin2, go_sem, reduceAdd, reduceMul]
 by_cases hp : P n
 · have hf : ofP nodes.length (fun m => P m \/ Reach nodes n m) = ofP nodes.length P := zaY (fun m _ => ⟨fun h => h.elim id (fun h => hP n (Nat.le_refl n) hp m h), Or.inl⟩)
   have hp1 : decide (P n) = true := decide_eq_true hp
   simp +decide only [hp1, hf, zM, hpin, hpin2, go_sem, reduceAdd, reduceMul]
 have hp1 : decide (P n) = false := decide_eq_false hp
 simp +decide only [hp1, hc1, hnl, zlZ hnl, Int.natCast_nonneg, zM, hpin, hpin2, go_sem, reduceAdd, reduceMul]
 let Q : Nat -> Nat -> Prop := fun i m => (P m \/ m = n) \/ ∃ j, ∃ (hj : j < x.kids.length), j < i /\ Reach nodes x.kids[j].toNat m
 refine Tri.loop (ι := Nat) (fun i => i <= x.kids.length) (fun i => ⟨35, [(0, .imm 83 (rows (zg true) nodes)), (1, vI n), (2, .ref 2000 [] nodes.length), (6, vI i)], [(2000, .row 4 (row1 cB (ofP nodes.length (Q i))))]⟩) (fun i => x.kids.length - i) 0 (by simp) ?_ ?_
 · have e0 : ofP nodes.length (Q 0) = ofP nodes.length (fun m => P m \/ m = n) := zaY (fun m _ => ⟨fun h => h.elim id (fun ⟨j, hj, h0, _⟩ => by omega), Or.inl⟩)
   have hs2 := zlZ (P := P) hnl
   have hq2 := XQ (P := P) hnl
   simp only [cB] at hs2 hq2
   refine Ent.weak ?_ ?_ ?_ ?_ <;> simp +decide [subT, subB, zk, zj, zl, St.get, look, vI, vB, vS, cI, cS, cB, zg, roI, e0, hq2, hs2]
 · rintro i hi
   refine ze zf _ ?_
   by_cases h' : i < x.kids.length
   · have e : ((i : Int) < (x.kids.length : Int)) = True := by simp [h']
     have hmem := List.getElem_mem h'
     obtain ⟨q0, q1, q2⟩ := hkid _ hmem
     have hQ : ∀ m, m <= x.kids[i].toNat -> Q i m -> ∀ q, Reach nodes m q -> Q i q := fun m hm hq q hr => by
       rcases hq with (hq | hq) | ⟨j, hj, hji, hq⟩
       · exact Or.inl (Or.inl (hP m (by omega) hq q hr))
       · omega
       · exact Or.inr ⟨j, hj, hji, hq.trans hr⟩
     have hnext : ofP nodes.length (fun m => Q i m \/ Reach nodes x.kids[i].toNat m) = ofP nodes.length (Q (i + 1)) := zaY (fun m _ => by
       constructor
       · rintro ((h | ⟨j, hj, hji, h⟩) | h)
         · exact Or.inl h
         · exact Or.inr ⟨j, hj, by omega, h⟩
         · exact Or.inr ⟨i, h', by omega, h⟩
       · rintro (h | ⟨j, hj, hji, h⟩)
         · exact Or.inl (Or.inl h)
         · by_cases ej : j = i
           · subst ej; exact Or.inr h
           · exact Or.inl (Or.inr ⟨j, hj, by omega, h⟩))
     have hs := hrec x.kids[i] hmem (Q i) hQ
     rw [hnext] at hs
     simp +decide only [e, hc1, zh _ _ hnl, hx, zg, zq _ _ h', Int.natCast_nonneg, vB, vI, zM, hpin, hpin2, go_sem, reduceAdd, reduceMul]
     refine YF hs hpin [(2000, 2000)] ⟨rfl, rfl, rfl⟩ (fun uf => ⟨rfl, rfl⟩) (fun uf => ?_) ?_
     · simp +decide only [zM, hpin, hpin2, go_sem, reduceAdd, reduceMul]
     simp +decide only [zM, hpin, hpin2, go_sem, reduceAdd, reduceMul]
     refine ⟨i + 1, h', by omega, Ent.weak ?_ ?_ ?_ ?_⟩
     all_goals simp +decide [subT, subB, zk, zj, zl, St.get, look, vI, vB, vS, cI, cS, cB, zg, roI, w64s (n := x.kids.length) h' (by omega)]
   · have hil : i = x.kids.length := by omega
     subst hil
     have e : ((x.kids.length : Int) < (x.kids.length : Int)) = False := by simp
     have hf : ofP nodes.length (Q x.kids.length) = ofP nodes.length (fun m => P m \/ Reach nodes n m) := zaY (fun m _ => by
       constructor
       · rintro ((h | rfl) | ⟨j, hj, _, h⟩)
         · exact Or.inl h
         · exact Or.inr (.refl _)
         · exact Or.inr (hsub _ (List.getElem_mem hj) m h)
       · rintro (h | h)
         · exact Or.inl (Or.inl h)
         · rcases hall m h with rfl | ⟨kid, hkk, hr⟩
           · exact Or.inl (Or.inr rfl)
           · obtain ⟨j, hj, rfl⟩ := List.getElem_of_mem hkk
             exact Or.inr ⟨j, hj, hj, hr⟩)
     rw [hf]
     simp +decide only [e, hc1, zh _ _ hnl, hx, zg, Int.natCast_nonneg, vB, vI, zM, hpin, hpin2, go_sem, reduceAdd, reduceMul]
theorem zpv : elT Tryz.prog 160 = some 4 := by kernel_rfl
theorem zqN : zeroCells Tryz.prog 4 = some [.bool false] := by kernel_rfl
theorem zqH : Zt Tryz.prog 4 = 1 := by kernel_rfl
attribute [go_sem] zpv zqN zqH
open Classical in
noncomputable def pick (P : Nat -> Prop) (i : Nat) : List Nat := (List.range i).filter fun m => decide (P m)
theorem zds (P : Nat -> Prop) (i : Nat) : (pick P i).length <= i := by
 unfold pick; exact Nat.le_trans (List.length_filter_le _ _) (by simp)
theorem zlW {P : Nat -> Prop} {i : Nat} (h : P i) : pick P (i + 1) = pick P i ++ [i] := by
 unfold pick; rw [List.range_succ, List.filter_append]; simp [h]
theorem zkD {P : Nat -> Prop} {i : Nat} (h : ¬ P i) : pick P (i + 1) = pick P i := by
 unfold pick; rw [List.range_succ, List.filter_append]; simp [h]
theorem zjD {P : Nat -> Prop} {i m : Nat} : m ∈ pick P i ↔ m < i /\ P m := by
 unfold pick; simp
theorem zat (P : Nat -> Prop) (i : Nat) : (ints (pick P i)).Pairwise (· < ·) := by
 unfold ints pick
 rw [List.pairwise_map]
 exact (List.Pairwise.filter _ List.pairwise_lt_range).imp (fun h => by omega)
theorem zbl {l : List Nat} {x : Int} : x ∈ ints l ↔ 0 <= x /\ x.toNat ∈ l := by
 unfold ints
 simp only [List.mem_map]
 exact ⟨fun ⟨a, ha, e⟩ => by subst e; exact ⟨by omega, by simpa using ha⟩, fun ⟨h0, h⟩ => ⟨x.toNat, h, by omega⟩⟩
theorem zkk {nodes : List NodeD} {n : Nat} (hd : dAt nodes n ≠ 0) : ints (pick (fun m => Reach nodes n m) nodes.length) = yU nodes n := by
 refine zaU (zat _ _) (YG nodes n) (fun x => ?_)
 show x ∈ ints _ ↔ x ∈ ints (zcb nodes n)
 rw [zbl, zbl, zjD, yO hd]
 obtain ⟨hnl, _⟩ := zaz hd
 exact ⟨fun ⟨h0, _, h⟩ => ⟨h0, h⟩, fun ⟨h0, h⟩ => ⟨h0, by have := h.le hd; omega, h⟩⟩
open Classical in
theorem Yf (p : ProgramD) (k : Int) (hn : p.nodes.length <= 1048576) (hk : ∀ x ∈ p.nodes, x.kids.length <= 1048576) : zu Tryz.prog 78 [.ro (zb p), .ro (.sc (.int .i64 k))] (fun rs st => rs = [(false, [.row false 3 (row1 cI (zI p.nodes k))])]) := by
 refine zm (fn := Tryz.f78) (c := Tryz.f78.body.getD .skip) (res := [.tm 4]) (n := 39) zf (by kernel_rfl) (by rfl) (by kernel_rfl) (by rfl) (by rfl) (by simp [zp]) (fun uf ub C hpin hpin2 hfull => ?_)
 simp only [Tryz.f78, Option.getD_some]
 refine Tri.step zf ?_
 simp +decide only [zb, za, zM, hpin, go_sem, reduceAdd, reduceMul]
 refine Tri.ent ?_ (Ent.frb hfull 2)
 refine Tri.step zf ?_
 simp +decide only [zb, za, zM, hpin, go_sem, reduceAdd, reduceMul]
 refine Tri.step zf ?_
 simp +decide only [zb, za, zM, hpin, go_sem, reduceAdd, reduceMul]
 refine zd (XD p.nodes k hn hk) hpin ?_
 simp +decide only [zb, za, zM, hpin, go_sem, reduceAdd, reduceMul]
 cases hd : zQ p.nodes k == 0 with
 | true =>
   have hu : zI p.nodes k = [] := by simp [zI, hd]
   have e0 : row1 cI ([] : List Int) = [] := rfl
   simp +decide only [hu, e0, zM, hpin, go_sem, reduceAdd, reduceMul]
 | false =>
 obtain ⟨n, rfl, hnl, hdn⟩ := Zm hd
 have hu : zI p.nodes n = yU p.nodes n := by simp [zI, hd]
 rw [hu]
 have hm1 : ((1 : Nat) : Int) * (p.nodes.length : Int) <= 281474976710656 := by omega
 have hm2 : (p.nodes.length : Int) <= 140737488355328 := by omega
 have hof := zma p.nodes.length
 simp only [cB] at hof
 simp +decide only [zb, za, zM, hpin, go_sem, reduceAdd, reduceMul]
 refine Tri.step zf ?_
 simp +decide only [hm1, hm2, hof, Int.natCast_nonneg, za, zM, hpin, go_sem, reduceAdd, reduceMul]
 refine Tri.step zf ?_
 simp +decide only [za, zM, hpin, go_sem, reduceAdd, reduceMul]
 have hmk := zkN p.nodes hn hk n hdn (fun _ => False) (fun m _ h => h.elim)
 have e9 : (fun m => False \/ Reach p.nodes n m) = fun m => Reach p.nodes n m := by funext m; simp
 rw [e9] at hmk
 have htk : List.take p.nodes.length (row1 cB (ofP p.nodes.length (fun m => Reach p.nodes n m))) = row1 cB (ofP p.nodes.length (fun m => Reach p.nodes n m)) := by
   have := yx cB (ofP p.nodes.length (fun m => Reach p.nodes n m))
   rwa [zM] at this
 refine YF hmk hpin [(2000, 6)] ⟨rfl, rfl, rfl⟩ (fun uf => ⟨rfl, rfl⟩) (fun uf => ?_) ?_
 · simp +decide only [zM, hpin, go_sem, reduceAdd, reduceMul]
 simp +decide only [zM, hpin, go_sem, reduceAdd, reduceMul]
 refine Tri.ent ?_ (Ent.frz hfull 6)
 refine ze zf _ ?_
 simp +decide only [htk, zM, hpin, go_sem, reduceAdd, reduceMul]
 have hfin := zkk hdn
 generalize hP : (fun m => Reach p.nodes n m) = P at hfin htk |-
 refine Tri.loop (ι := Nat) (fun i => i <= p.nodes.length) (fun i => ⟨39, [(2, .ip (za true p) 0), (5, .ref 5 [] (pick P i).length), (6, .imm 4 (row1 cB (ofP p.nodes.length P))), (7, vI i)], [(5, .row 3 (row1 cI (ints (pick P i))))]⟩) (fun i => p.nodes.length - i) 0 (by simp) ?_ ?_
 · refine Ent.weak ?_ ?_ ?_ ?_ <;> simp +decide [subT, subB, zk, zj, zl, St.get, look, vI, vB, vS, cI, cS, cB, zg, roI, za, pick, ints, htk, zjZ]
   all_goals rfl
 · rintro i hi
   refine ze zf _ ?_
   have hpl := zds P i
   by_cases h' : i < p.nodes.length
   · have e : ((i : Int) < (p.nodes.length : Int)) = True := by simp [h']
     have hb1 : (pick P i).length + 1 <= 140737488355328 := by omega
     have hb2 : ((pick P i).length + 1) * 8 <= 140737488355328 := by omega
     simp +decide only [e, zoY h', Int.natCast_nonneg, vB, vI, zM, hpin, go_sem, reduceAdd, reduceMul]
     by_cases hp : P i
     · have hp1 : decide (P i) = true := decide_eq_true hp
       have hpk := zlW hp
       simp +decide only [hp1, zK, hb1, hb2, zM, hpin, go_sem, reduceAdd, reduceMul]
       refine ⟨i + 1, h', by omega, Ent.weak ?_ ?_ ?_ ?_⟩
       all_goals simp +decide [subT, subB, zk, zj, zl, St.get, look, vI, vB, vS, cI, cS, cB, zg, roI, hpk, ints, row1, w64s (n := p.nodes.length) h' (by omega)]
     · have hp1 : decide (P i) = false := decide_eq_false hp
       have hpk := zkD hp
       simp +decide only [hp1, zM, hpin, go_sem, reduceAdd, reduceMul]
       refine ⟨i + 1, h', by omega, Ent.weak ?_ ?_ ?_ ?_⟩
       all_goals simp +decide [subT, subB, zk, zj, zl, St.get, look, vI, vB, vS, cI, cS, cB, zg, roI, hpk, w64s (n := p.nodes.length) h' (by omega)]
   · have hil : i = p.nodes.length := by omega
     subst hil
     have e : ((p.nodes.length : Int) < (p.nodes.length : Int)) = False := by simp
     have hul : (yU p.nodes n).length = (pick P p.nodes.length).length := by rw [<- hfin, zK]
     simp +decide only [e, hfin, hul, vB, vI, zM, hpin, go_sem, reduceAdd, reduceMul]
theorem zkf {P : Program} {C : Cx} {st : St} {K : St -> Prop} {f : FuncId} {ags : List Arg} {ι : Type} {Inv : ι -> Prop} {R : ι -> List RV} (hs : zu P f ags (fun rs _ => ∃ i, Inv i /\ rs = R i)) (hpin : ∀ o, xN o = false -> C.pin o = none) {vs : List V} {d : Option Nat}
   (h1 : (xx st vs ags).1 /\ ZV ⟨[], fun _ => undef, pvOf C, (xx st vs ags).2.ob, xV 0 ags⟩ vs ags) (h : ∀ i, Inv i -> zdG (R i) = true /\ ev (b := ⟨K⟩) (zbE (xx st vs ags).2 d (R i))) : XJ (b := ⟨K⟩) P C st f vs d :=
 zal hs (pin3 hpin) h1.1 h1.2 (fun rs _ ⟨i, hi, hr⟩ => by rw [hr]; exact (h i hi).1) (fun rs _ ⟨i, hi, hr⟩ => by rw [hr]; exact (h i hi).2)
inductive RB (nodes : List NodeD) : Nat -> Nat -> Prop
 | refl (n : Nat) : RB nodes n n
 | step {n m : Nat} {kid : Int} (h : RB nodes n m) (hm : m < nodes.length) (hk : kid ∈ nodes[m].kids) (hb : (nAt nodes kid).kind ≠ 20) : RB nodes n kid.toNat
theorem RB.trans {nodes : List NodeD} {a b c : Nat} (h : RB nodes a b) (h' : RB nodes b c) : RB nodes a c := by
 induction h' with
 | refl => exact h
 | step _ hm hk hb ih => exact .step ih hm hk hb
theorem RB.reach {nodes : List NodeD} {a b : Nat} (h : RB nodes a b) : Reach nodes a b := by
 induction h with
 | refl => exact .refl _
 | step _ hm hk hb ih => exact .step ih hm hk
theorem znc (k : Int) : (zG k).2 <= 12 := by
 have key : ∀ (c : Bool) (a b : Int × Int), a.2 <= 12 -> b.2 <= 12 -> (if c = true then a else b).2 <= 12 := fun c a b ha hb => by cases c <;> simp [ha, hb]
 unfold zG
 repeat' apply key
 all_goals decide
def W (nodes : List NodeD) (n : Nat) : Nat := 13 ^ (dAt nodes n).toNat
def Ws (nodes : List NodeD) (l : List Nat) : Nat := (l.map (W nodes)).sum
structure Walk (nodes : List NodeD) (s : Nat) (l : List Nat) (i : Nat) : Prop where
 reach : ∀ x ∈ l, RB nodes s x
 root : s ∈ l
 done : ∀ p (hp : p < l.length), p < i -> ∀ (hl : l[p] < nodes.length), ∀ kid ∈ nodes[l[p]].kids, (nAt nodes kid).kind ≠ 20 -> kid.toNat ∈ l
 le : i <= l.length
 few : i + Ws nodes (l.drop i) <= W nodes s
open Classical in
def fd0 : FnD := ⟨⟨#[]⟩, [], 0, 0, 0⟩
def fAt (fns : List FnD) (j : Int) : FnD := fns.getD j.toNat fd0
theorem yS {fns : List FnD} {n : Nat} (h : n < fns.length) : fAt fns (n : Int) = fns[n] := by simp [fAt, List.getD, h]
def zbr (s : ByteArray) : List FnD -> Nat -> Int
 | [], _ => -1
 | f :: r, i => if f.name = s then (i : Int) else zbr s r (i + 1)
def xE (fns : List FnD) (s : ByteArray) : Int := zbr s fns 0
theorem ZZ (s : ByteArray) : ∀ (l : List FnD) (i : Nat), zbr s l i = -1 \/ ((i : Int) <= zbr s l i /\ zbr s l i < (i + l.length : Nat))
 | [], i => Or.inl rfl
 | f :: r, i => by
   unfold zbr
   by_cases h : f.name = s
   · rw [if_pos h]; right; simp; omega
   · rw [if_neg h]
     rcases ZZ s r (i + 1) with h1 | h1
     · exact Or.inl h1
     · right; simp only [List.length_cons]; omega
theorem YW (p : ProgramD) (s : ByteArray) (hf : p.fns.length <= 1048576) : zu Tryz.prog 90 [.ro (zb p), .ro (.sc (.string s))] (fun rs st => rs = [(false, [cI (xE p.fns s)])]) := by
 refine zm (fn := Tryz.f90) (c := Tryz.f90.body.getD .skip) (res := [.tm 4]) (n := 21) zf (by kernel_rfl) (by rfl) (by kernel_rfl) (by rfl) (by rfl) (by simp [zp]) (fun uf ub C hpin hpin2 hfull => ?_)
 simp only [Tryz.f90, Option.getD_some]
 refine Tri.step zf ?_
 simp +decide only [zb, za, hpin, go_sem, reduceAdd, reduceMul]
 refine Tri.ent ?_ (Ent.frb hfull 2)
 refine Tri.step zf ?_
 simp +decide only [zb, za, hpin, go_sem, reduceAdd, reduceMul]
 refine Tri.loop (ι := Nat) (fun i => i <= p.fns.length /\ xE p.fns s = zbr s (p.fns.drop i) i) (fun i => ⟨21, [(1, vS s), (8, .imm 104 (rows (fnC true) p.fns)), (9, vI p.fns.length), (10, vI i)], []⟩) (fun i => p.fns.length - i) 0 ⟨by simp, rfl⟩ ?_ ?_
 · refine Ent.weak ?_ ?_ ?_ ?_ <;> simp +decide [subT, subB, zk, zj, zl, St.get, look, vI, vB, vS, cI, cS, cB, zg, roI]
 · rintro i ⟨hi, hq⟩
   refine ze zf _ ?_
   by_cases h' : i < p.fns.length
   · have e : ((i : Int) < (p.fns.length : Int)) = True := by simp [h']
     rw [List.drop_eq_getElem_cons h', zbr] at hq
     simp +decide only [e, h', zh _ _ h', fnC, Int.natCast_nonneg, vB, vI, vS, hpin, go_sem, reduceAdd, reduceMul]
     by_cases hs : p.fns[i].name = s
     · have h1 : decide (p.fns[i].name = s) = true := decide_eq_true hs
       rw [if_pos hs] at hq
       simp +decide only [h1, hq, hpin, go_sem, reduceAdd, reduceMul]
     · have h1 : decide (p.fns[i].name = s) = false := decide_eq_false hs
       rw [if_neg hs] at hq
       simp +decide only [h1, hpin, go_sem, reduceAdd, reduceMul]
       refine ⟨i + 1, ⟨h', hq⟩, by omega, Ent.weak ?_ ?_ ?_ ?_⟩
       all_goals simp +decide [subT, subB, zk, zj, zl, St.get, look, vI, vB, vS, cI, cS, cB, zg, roI, w64s (n := p.fns.length) h' (by omega)]
   · have hil : i = p.fns.length := by omega
     subst hil
     have e : ((p.fns.length : Int) < (p.fns.length : Int)) = False := by simp
     rw [List.drop_length] at hq
     have hq2 : xE p.fns s = -1 := hq
     simp +decide only [e, hq2, vB, vI, hpin, go_sem, reduceAdd, reduceMul]
     refine ze zf _ ?_
     simp +decide only [hq2, hpin, go_sem, reduceAdd, reduceMul]
theorem zaE (p : ProgramD) (s : ByteArray) (hf : p.fns.length <= 1048576) : zu Tryz.prog 86 [.ro (zb p), .ro (.sc (.string s))] (fun rs st => rs = [(false, [cI (xE p.fns s)])]) := by
 refine zm (fn := Tryz.f86) (c := Tryz.f86.body.getD .skip) (res := [.tm 4]) (n := 22) zf (by kernel_rfl) (by rfl) (by kernel_rfl) (by rfl) (by rfl) (by simp [zp]) (fun uf ub C hpin hpin2 hfull => ?_)
 simp only [Tryz.f86, Option.getD_some]
 refine Tri.step zf ?_
 simp +decide only [zb, za, hpin, go_sem, reduceAdd, reduceMul]
 refine Tri.ent ?_ (Ent.frb hfull 2)
 refine Tri.step zf ?_
 simp +decide only [zb, za, hpin, go_sem, reduceAdd, reduceMul]
 refine Tri.loop (ι := Nat) (fun i => i <= p.fns.length /\ xE p.fns s = zbr s (p.fns.drop i) i) (fun i => ⟨22, [(1, vS s), (2, .ip (za true p) 0), (5, vI i)], []⟩) (fun i => p.fns.length - i) 0 ⟨by simp, rfl⟩ ?_ ?_
 · refine Ent.weak ?_ ?_ ?_ ?_ <;> simp +decide [subT, subB, zk, zj, zl, St.get, look, vI, vB, vS, cI, cS, cB, zg, roI, za]
 · rintro i ⟨hi, hq⟩
   refine ze zf _ ?_
   by_cases h' : i < p.fns.length
   · have e : ((i : Int) < (p.fns.length : Int)) = True := by simp [h']
     rw [List.drop_eq_getElem_cons h', zbr] at hq
     simp +decide only [e, h', zh _ _ h', fnC, za, Int.natCast_nonneg, vB, vI, vS, hpin, go_sem, reduceAdd, reduceMul]
     by_cases hs : p.fns[i].name = s
     · have h1 : decide (p.fns[i].name = s) = true := decide_eq_true hs
       rw [if_pos hs] at hq
       simp +decide only [h1, hq, hpin, go_sem, reduceAdd, reduceMul]
     · have h1 : decide (p.fns[i].name = s) = false := decide_eq_false hs
       rw [if_neg hs] at hq
       simp +decide only [h1, hpin, go_sem, reduceAdd, reduceMul]
       refine ⟨i + 1, ⟨h', hq⟩, by omega, Ent.weak ?_ ?_ ?_ ?_⟩
       all_goals simp +decide [subT, subB, zk, zj, zl, St.get, look, vI, vB, vS, cI, cS, cB, zg, roI, za, w64s (n := p.fns.length) h' (by omega)]
   · have hil : i = p.fns.length := by omega
     subst hil
     have e : ((p.fns.length : Int) < (p.fns.length : Int)) = False := by simp
     rw [List.drop_length] at hq
     have hq2 : xE p.fns s = -1 := hq
     simp +decide only [e, hq2, za, vB, vI, hpin, go_sem, reduceAdd, reduceMul]
     refine ze zf _ ?_
     simp +decide only [hq2, hpin, go_sem, reduceAdd, reduceMul]
def zaT (p : ProgramD) (fn : Int) : List Int := if inI fn 0 (p.fns.length - 1) then (fAt p.fns fn).body :: (if (fAt p.fns fn).ret == -1 then [] else [(fAt p.fns fn).ret]) else []
theorem zfK (p : ProgramD) (fn : Int) : (zaT p fn).length <= 2 := by
 unfold zaT
 split
 · split <;> simp
 · simp
def inFn (p : ProgramD) (fn : Int) (m : Nat) : Prop := ∃ k ∈ zaT p fn, (m : Int) ∈ zI p.nodes k
noncomputable def fnNs (p : ProgramD) (fn : Int) : List Int := ints (pick (inFn p fn) p.nodes.length)
theorem zcR {nodes : List NodeD} {k : Int} {m : Nat} (h : (m : Int) ∈ zI nodes k) : m < nodes.length := by
 have := (yF h).2.1
 simpa using this
theorem zcM (p : ProgramD) (fn : Int) (x : Int) : x ∈ fnNs p fn ↔ ∃ k ∈ zaT p fn, x ∈ zI p.nodes k := by
 unfold fnNs
 rw [zbl, zjD]
 constructor
 · rintro ⟨h0, _, k, hk, h⟩
   exact ⟨k, hk, by rw [show x = (x.toNat : Int) by omega]; exact h⟩
 · rintro ⟨k, hk, h⟩
   have h1 := yF h
   exact ⟨h1.1, h1.2.1, k, hk, by rw [show ((x.toNat : Nat) : Int) = x by omega]; exact h⟩
theorem zaK (nodes : List NodeD) (k : Int) : (zI nodes k).Pairwise (· < ·) := by
 unfold zI
 split
 · exact List.Pairwise.nil
 · exact YG _ _
theorem Zl (p : ProgramD) (fn : Int) : (fnNs p fn).length <= p.nodes.length := by
 unfold fnNs; rw [zK]; exact zds _ _
theorem zir (p : ProgramD) (fn : Int) (hf : p.fns.length <= 1048576) : zu Tryz.prog 155 [.ro (zb p), .ro (.sc (.int .i64 fn))] (fun rs st => rs = [(false, [.row false 3 (row1 cI (zaT p fn))])]) := by
 refine zm (fn := Tryz.f155) (c := Tryz.f155.body.getD .skip) (res := [.tm 4]) (n := 37) zf (by kernel_rfl) (by rfl) (by kernel_rfl) (by rfl) (by rfl) (by simp [zp]) (fun uf ub C hpin hpin2 hfull => ?_)
 simp only [Tryz.f155, Option.getD_some]
 have w1 : IntKind.i64.wrap ((p.fns.length : Int) - 1) = (p.fns.length : Int) - 1 := w64 (by omega) (by omega)
 have e0 : row1 cI ([] : List Int) = [] := rfl
 refine Tri.step zf ?_
 simp +decide only [zb, za, hpin, go_sem, reduceAdd, reduceMul]
 refine Tri.ent ?_ (Ent.frb hfull 2)
 refine Tri.step zf ?_
 simp +decide only [w1, zb, za, hpin, go_sem, reduceAdd, reduceMul]
 refine zd (in' fn 0 (p.fns.length - 1)) hpin ?_
 unfold zaT
 cases h0 : inI fn 0 (p.fns.length - 1) with
 | false => simp +decide only [e0, hpin, go_sem, reduceAdd, reduceMul]
 | true =>
 have hr := zx h0
 obtain ⟨f, rfl⟩ : ∃ f : Nat, fn = f := ⟨fn.toNat, by omega⟩
 have hfl : f < p.fns.length := by omega
 have c1 : ((f : Int) < (p.fns.length : Int)) = True := eq_true (by omega)
 rw [yS hfl]
 cases h1 : p.fns[f].ret == -1 with
 | true =>
   simp +decide only [h1, row1, hpin, go_sem, reduceAdd, reduceMul]
   refine Tri.step zf ?_
   simp +decide only [c1, zh _ _ hfl, fnC, zb, za, Int.natCast_nonneg, hpin, go_sem, reduceAdd, reduceMul]
   refine Tri.step zf ?_
   simp +decide only [c1, h1, zh _ _ hfl, fnC, bne, zb, za, Int.natCast_nonneg, hpin, go_sem, reduceAdd, reduceMul]
   refine ze zf _ ?_
   simp +decide only [row1, hpin, go_sem, reduceAdd, reduceMul]
 | false =>
   simp +decide only [h1, row1, hpin, go_sem, reduceAdd, reduceMul]
   refine Tri.step zf ?_
   simp +decide only [c1, zh _ _ hfl, fnC, zb, za, Int.natCast_nonneg, hpin, go_sem, reduceAdd, reduceMul]
   refine Tri.step zf ?_
   simp +decide only [c1, h1, zh _ _ hfl, fnC, bne, zb, za, Int.natCast_nonneg, hpin, go_sem, reduceAdd, reduceMul]
   refine ze zf _ ?_
   simp +decide only [row1, hpin, go_sem, reduceAdd, reduceMul]
theorem zbq (p : ProgramD) (fn : Int) (hf : p.fns.length <= 1048576) (hn : p.nodes.length <= 1048576) (hk : ∀ x ∈ p.nodes, x.kids.length <= 1048576) : zu Tryz.prog 81 [.ro (zb p), .ro (.sc (.int .i64 fn))] (fun rs st => rs = [(false, [.row false 3 (row1 cI (fnNs p fn))])]) := by
 refine zm (fn := Tryz.f81) (c := Tryz.f81.body.getD .skip) (res := [.tm 4]) (n := 39) zf (by kernel_rfl) (by rfl) (by kernel_rfl) (by rfl) (by rfl) (by simp [zp]) (fun uf ub C hpin hpin2 hfull => ?_)
 simp only [Tryz.f81, Option.getD_some]
 refine Tri.step zf ?_
 simp +decide only [zb, za, hpin, go_sem, reduceAdd, reduceMul]
 refine Tri.ent ?_ (Ent.frb hfull 2)
 refine Tri.step zf ?_
 simp +decide only [zb, za, hpin, go_sem, reduceAdd, reduceMul]
 refine Tri.step zf ?_
 simp +decide only [zb, za, hpin, go_sem, reduceAdd, reduceMul]
 refine zd (zir p fn hf) hpin ?_
 simp +decide only [zb, za, hpin, go_sem, reduceAdd, reduceMul]
 have hrl := zfK p fn
 have hmem := zcM p fn
 have hris : (fnNs p fn).Pairwise (· < ·) := zat _ _
 generalize zaT p fn = R at hrl hmem |-
 generalize fnNs p fn = Z at hmem hris |-
 refine Tri.loop (ι := Nat × List Nat) (fun q => q.1 <= R.length /\ q.2.Nodup /\ ∀ m, m ∈ q.2 ↔ ∃ a, ∃ (ha : a < R.length), a < q.1 /\ (m : Int) ∈ zI p.nodes R[a]) (fun q => ⟨39, [(2, .ip (za true p) 0), (5, .ref 5 [] q.2.length), (12, .ref 3012 [] R.length), (13, vI R.length), (14, vI q.1)], [(3012, .row 3 (row1 cI R)), (5, .row 3 (row1 cI (ints q.2)))]⟩) (fun q => R.length - q.1) (0, []) ⟨by simp, by simp, fun m => ⟨fun h => by simp at h, fun ⟨a, ha, h0, _⟩ => by omega⟩⟩ ?_ ?_
 · refine Ent.weak ?_ ?_ ?_ ?_ <;> simp +decide [subT, subB, zk, zj, zl, St.get, look, vI, vB, vS, cI, cS, cB, zg, roI, za, ints, row1]
 · rintro ⟨i, l⟩ ⟨hi, hnd, hq⟩
   simp only at hi hnd hq |-
   have hll : l.length <= p.nodes.length := zba hnd (fun x hx => by
     obtain ⟨a, ha, _, h⟩ := (hq x).1 hx
     exact zcR h)
   refine ze zf _ ?_
   by_cases h' : i < R.length
   · have e : ((i : Int) < (R.length : Int)) = True := by simp [h']
     simp +decide only [e, h', yd _ _ h', za, Int.natCast_nonneg, vB, vI, hpin, go_sem, reduceAdd, reduceMul]
     refine zd (Xl p R[i] hn hk) hpin ?_
     simp +decide only [zb, za, hpin, go_sem, reduceAdd, reduceMul]
     have hul := yu p.nodes R[i]
     have hum : ∀ b (hb : b < (zI p.nodes R[i]).length), 0 <= (zI p.nodes R[i])[b] := fun b hb => (yF (List.getElem_mem hb)).1
     have hulm : ∀ m : Nat, (m : Int) ∈ zI p.nodes R[i] -> m < p.nodes.length := fun m h => zcR h
     have hnext : ∀ L : List Nat, (∀ m, m ∈ L ↔ (∃ a, ∃ (ha : a < R.length), a < i /\ (m : Int) ∈ zI p.nodes R[a]) \/ (m : Int) ∈ zI p.nodes R[i]) -> ∀ m, m ∈ L ↔ ∃ a, ∃ (ha : a < R.length), a < i + 1 /\ (m : Int) ∈ zI p.nodes R[a] := fun L hL m => by
       rw [hL m]
       constructor
       · rintro (⟨a, ha, h1, h2⟩ | h)
         · exact ⟨a, ha, by omega, h2⟩
         · exact ⟨i, h', by omega, h⟩
       · rintro ⟨a, ha, h1, h2⟩
         by_cases ea : a = i
         · subst ea; exact Or.inr h2
         · exact Or.inl ⟨a, ha, by omega, h2⟩
     generalize zI p.nodes R[i] = U at hul hum hulm hnext |-
     refine Tri.loop (ι := Nat × List Nat) (fun q => q.1 <= U.length /\ q.2.Nodup /\ ∀ m, m ∈ q.2 ↔ (∃ a, ∃ (ha : a < R.length), a < i /\ (m : Int) ∈ zI p.nodes R[a]) \/ (m : Int) ∈ U.take q.1) (fun q => ⟨39, [(2, .ip (za true p) 0), (5, .ref 5 [] q.2.length), (12, .ref 3012 [] R.length), (13, vI R.length), (14, vI i), (20, .ref 3020 [] U.length), (21, vI U.length), (22, vI q.1)], [(3020, .row 3 (row1 cI U)), (3012, .row 3 (row1 cI R)), (5, .row 3 (row1 cI (ints q.2)))]⟩) (fun q => U.length - q.1) (0, l) ⟨by simp, hnd, fun m => by rw [hq m]; simp⟩ ?_ ?_
     · refine Ent.weak ?_ ?_ ?_ ?_ <;> simp +decide [subT, subB, zk, zj, zl, St.get, look, vI, vB, vS, cI, cS, cB, zg, roI, za]
     · rintro ⟨j, L⟩ ⟨hj, hLn, hL⟩
       simp only at hj hLn hL |-
       have hLl : L.length <= p.nodes.length := zba hLn (fun x hx => by
         rcases (hL x).1 hx with ⟨a, ha, _, h⟩ | h
         · exact zcR h
         · exact hulm x (List.mem_of_mem_take h))
       refine ze zf _ ?_
       by_cases hj' : j < U.length
       · have e2 : ((j : Int) < (U.length : Int)) = True := by simp [hj']
         have q0 := hum j hj'
         have hcast : ((U[j].toNat : Nat) : Int) = U[j] := by omega
         have htk : ∀ m : Nat, (m : Int) ∈ U.take (j + 1) ↔ (m : Int) ∈ U.take j \/ m = U[j].toNat := fun m => by
           rw [List.take_succ_eq_append_getElem hj', List.mem_append, List.mem_singleton]
           constructor
           · rintro (h | h)
             · exact Or.inl h
             · right; omega
           · rintro (h | h)
             · exact Or.inl h
             · right; omega
         simp +decide only [e2, hj', yd _ _ hj', zK, za, Int.natCast_nonneg, vB, vI, hpin, go_sem, reduceAdd, reduceMul]
         refine zd (Yl (ints L) U[j] (by rw [zK]; omega)) hpin ?_
         simp +decide only [zK, zhz, hpin, go_sem, reduceAdd, reduceMul]
         rw [zjN q0]
         cases hc : L.contains U[j].toNat with
         | true =>
           have hmm : U[j].toNat ∈ L := by simpa using hc
           simp +decide only [hc, hpin, go_sem, reduceAdd, reduceMul]
           refine ⟨(j + 1, L), ⟨hj', hLn, fun m => ?_⟩, by simp only; omega, Ent.weak ?_ ?_ ?_ ?_⟩
           · rw [hL m, htk m]
             constructor
             · rintro (h | h)
               · exact Or.inl h
               · exact Or.inr (Or.inl h)
             · rintro (h | h | h)
               · exact Or.inl h
               · exact Or.inr h
               · subst h; exact (hL _).1 hmm
           all_goals simp +decide [subT, subB, zk, zj, zl, St.get, look, vI, vB, vS, cI, cS, cB, zg, roI, za, w64s (n := U.length) hj' (by omega)]
         | false =>
           have hnm : U[j].toNat ∉ L := by simpa using hc
           have hb1 : L.length + 1 <= 140737488355328 := by omega
           have hb2 : (L.length + 1) * 8 <= 140737488355328 := by omega
           have hsn := zhA L q0
           simp +decide only [hc, zK, hb1, hb2, hpin, go_sem, reduceAdd, reduceMul]
           refine ⟨(j + 1, L ++ [U[j].toNat]), ⟨hj', ?_, fun m => ?_⟩, by simp only; omega, Ent.weak ?_ ?_ ?_ ?_⟩
           · rw [List.nodup_append]
             exact ⟨hLn, by simp, fun a ha b hb => by simp at hb; subst hb; exact fun e => hnm (e ▸ ha)⟩
           · rw [List.mem_append, List.mem_singleton, hL m, htk m, or_assoc]
           all_goals simp +decide [subT, subB, zk, zj, zl, St.get, look, vI, vB, vS, cI, cS, cB, zg, roI, za, w64s (n := U.length) hj' (by omega), <- hsn, row1, ints, Int.max_eq_left q0]
       · have hjl : j = U.length := by omega
         subst hjl
         have e2 : ((U.length : Int) < (U.length : Int)) = False := by simp
         rw [List.take_length] at hL
         simp +decide only [e2, vB, vI, hpin, go_sem, reduceAdd, reduceMul]
         refine ⟨(i + 1, L), ⟨h', hLn, hnext L hL⟩, by simp only; omega, Ent.weak ?_ ?_ ?_ ?_⟩
         all_goals simp +decide [subT, subB, zk, zj, zl, St.get, look, vI, vB, vS, cI, cS, cB, zg, roI, za, w64s (n := R.length) h' (by omega)]
   · have hil : i = R.length := by omega
     subst hil
     have e : ((R.length : Int) < (R.length : Int)) = False := by simp
     have hs : xB (ints l) = Z := by
       refine zgN ?_ hris (fun z => ?_)
       · unfold ints
         exact List.Pairwise.map _ (fun a b hab h => hab (by omega)) hnd
       · rw [zbl, hmem z]
         constructor
         · rintro ⟨h0, h⟩
           obtain ⟨a, ha, _, h2⟩ := (hq _).1 h
           exact ⟨R[a], List.getElem_mem ha, by rw [show ((z.toNat : Nat) : Int) = z by omega] at h2; exact h2⟩
         · rintro ⟨k, hkk, h⟩
           obtain ⟨a, ha, rfl⟩ := List.getElem_of_mem hkk
           have h0 := (yF h).1
           exact ⟨h0, (hq _).2 ⟨a, ha, ha, by rw [show ((z.toNat : Nat) : Int) = z by omega]; exact h⟩⟩
     have hzl : Z.length = l.length := by rw [<- hs, yW, zK]
     simp +decide only [e, vB, vI, hpin, go_sem, reduceAdd, reduceMul]
     refine Tri.step zf ?_
     simp +decide only [zK, hpin, go_sem, reduceAdd, reduceMul]
     refine YF (zad (ints l) (by rw [zK]; omega)) hpin [(2000, 5)] ⟨rfl, rfl, rfl⟩ (fun uf => ⟨rfl, rfl⟩) (fun uf => ?_) ?_
     · simp +decide only [zK, go_sem, reduceAdd, reduceMul]
     simp +decide only [zK, yW, hs, hzl, hpin, go_sem, reduceAdd, reduceMul]
     refine ze zf _ ?_
     simp +decide only [zK, hzl, hpin, go_sem, reduceAdd, reduceMul]
structure Zip (a b : List Int) (i k : Nat) (l : List Int) : Prop where
 ri : l.Pairwise (· < ·)
 mem : ∀ x, x ∈ l ↔ x ∈ a.take i \/ x ∈ b.take k
 la : ∀ x ∈ l, ∀ y ∈ a.drop i, x < y
 lb : ∀ x ∈ l, ∀ y ∈ b.drop k, x < y
 few : l.length <= i + k
theorem zdm {l : List Int} {x : Int} (h : l.Pairwise (· < ·)) (hx : ∀ y ∈ l, y < x) : (l ++ [x]).Pairwise (· < ·) := by
 rw [List.pairwise_append]
 exact ⟨h, by simp, fun a ha b hb => by simp at hb; subst hb; exact hx a ha⟩
theorem Yt {a : List Int} (h : a.Pairwise (· < ·)) {i : Nat} (hi : i < a.length) : ∀ y ∈ a.drop (i + 1), a[i] < y := by
 have h2 : (a.drop i).Pairwise (· < ·) := h.sublist (List.drop_sublist _ _)
 rw [List.drop_eq_getElem_cons hi] at h2
 exact (List.pairwise_cons.1 h2).1
theorem ZF {a : List Int} {i : Nat} (hi : i < a.length) : ∀ y, y ∈ a.drop i ↔ y = a[i] \/ y ∈ a.drop (i + 1) := fun y => by
 rw [List.drop_eq_getElem_cons hi, List.mem_cons]
theorem zcD {a : List Int} {i : Nat} (hi : i < a.length) : ∀ y, y ∈ a.take (i + 1) ↔ y ∈ a.take i \/ y = a[i] := fun y => by
 rw [List.take_succ_eq_append_getElem hi, List.mem_append, List.mem_singleton]
theorem Zip.left {a b : List Int} (ha : a.Pairwise (· < ·)) (hb : b.Pairwise (· < ·)) {i k : Nat} {l : List Int} (h : Zip a b i k l) (hi : i < a.length) (hk : ∀ y ∈ b.drop k, a[i] < y) : Zip a b (i + 1) k (l ++ [a[i]]) where
 ri := zdm h.ri (fun y hy => h.la y hy _ ((ZF hi _).2 (Or.inl rfl)))
 mem := fun x => by rw [List.mem_append, List.mem_singleton, h.mem, zcD hi]; exact ⟨fun hh => hh.elim (fun hh => hh.elim (fun h1 => Or.inl (Or.inl h1)) Or.inr) (fun h1 => Or.inl (Or.inr h1)), fun hh => hh.elim (fun hh => hh.elim (fun h1 => Or.inl (Or.inl h1)) Or.inr) (fun h1 => Or.inl (Or.inr h1))⟩
 la := fun x hx y hy => by
   rcases List.mem_append.1 hx with hx | hx
   · exact h.la x hx y ((ZF hi y).2 (Or.inr hy))
   · simp at hx; subst hx; exact Yt ha hi y hy
 lb := fun x hx y hy => by
   rcases List.mem_append.1 hx with hx | hx
   · exact h.lb x hx y hy
   · simp at hx; subst hx; exact hk y hy
 few := by have := h.few; simp; omega
theorem Zip.right {a b : List Int} (ha : a.Pairwise (· < ·)) (hb : b.Pairwise (· < ·)) {i k : Nat} {l : List Int} (h : Zip a b i k l) (hk : k < b.length) (hi : ∀ y ∈ a.drop i, b[k] < y) : Zip a b i (k + 1) (l ++ [b[k]]) where
 ri := zdm h.ri (fun y hy => h.lb y hy _ ((ZF hk _).2 (Or.inl rfl)))
 mem := fun x => by rw [List.mem_append, List.mem_singleton, h.mem, zcD hk, or_assoc]
 la := fun x hx y hy => by
   rcases List.mem_append.1 hx with hx | hx
   · exact h.la x hx y hy
   · simp at hx; subst hx; exact hi y hy
 lb := fun x hx y hy => by
   rcases List.mem_append.1 hx with hx | hx
   · exact h.lb x hx y ((ZF hk y).2 (Or.inr hy))
   · simp at hx; subst hx; exact Yt hb hk y hy
 few := by have := h.few; simp; omega
theorem Zip.both {a b : List Int} (ha : a.Pairwise (· < ·)) (hb : b.Pairwise (· < ·)) {i k : Nat} {l : List Int} (h : Zip a b i k l) (hi : i < a.length) (hk : k < b.length) (he : a[i] = b[k]) : Zip a b (i + 1) (k + 1) (l ++ [b[k]]) where
 ri := zdm h.ri (fun y hy => h.lb y hy _ ((ZF hk _).2 (Or.inl rfl)))
 mem := fun x => by
   rw [List.mem_append, List.mem_singleton, h.mem, zcD hi, zcD hk, he]
   exact ⟨fun hh => hh.elim (fun hh => hh.elim (fun h1 => Or.inl (Or.inl h1)) (fun h1 => Or.inr (Or.inl h1))) (fun h1 => Or.inr (Or.inr h1)), fun hh => hh.elim (fun hh => hh.elim (fun h1 => Or.inl (Or.inl h1)) (fun h1 => Or.inr h1)) (fun hh => hh.elim (fun h1 => Or.inl (Or.inr h1)) (fun h1 => Or.inr h1))⟩
 la := fun x hx y hy => by
   rcases List.mem_append.1 hx with hx | hx
   · exact h.la x hx y ((ZF hi y).2 (Or.inr hy))
   · simp at hx; subst hx; rw [<- he]; exact Yt ha hi y hy
 lb := fun x hx y hy => by
   rcases List.mem_append.1 hx with hx | hx
   · exact h.lb x hx y ((ZF hk y).2 (Or.inr hy))
   · simp at hx; subst hx; exact Yt hb hk y hy
 few := by have := h.few; simp; omega
theorem zmP (p : ProgramD) (fn : Int) (hf : p.fns.length <= 1048576) (hn : p.nodes.length <= 1048576) (hk : ∀ x ∈ p.nodes, x.kids.length <= 1048576) : zu Tryz.prog 85 [.ro (zb p), .ro (.sc (.int .i64 fn))] (fun rs st => rs = [(false, [.row false 3 (row1 cI (fnNs p fn))])]) := by
 refine zm (fn := Tryz.f85) (c := Tryz.f85.body.getD .skip) (res := [.tm 4]) (n := 102) zf (by kernel_rfl) (by rfl) (by kernel_rfl) (by rfl) (by rfl) (by simp [zp]) (fun uf ub C hpin hpin2 hfull => ?_)
 simp only [Tryz.f85, Option.getD_some]
 have w1 : IntKind.i64.wrap ((p.fns.length : Int) - 1) = (p.fns.length : Int) - 1 := w64 (by omega) (by omega)
 have e0 : row1 cI ([] : List Int) = [] := rfl
 refine Tri.step zf ?_
 simp +decide only [zb, za, hpin, go_sem, reduceAdd, reduceMul]
 refine Tri.ent ?_ (Ent.frb hfull 2)
 refine Tri.step zf ?_
 simp +decide only [zb, za, hpin, go_sem, reduceAdd, reduceMul]
 refine Tri.step zf ?_
 simp +decide only [w1, zb, za, hpin, go_sem, reduceAdd, reduceMul]
 refine zd (xv fn 0 (p.fns.length - 1)) hpin ?_
 cases h0 : inI fn 0 (p.fns.length - 1) with
 | false =>
   have hz : fnNs p fn = [] := by
     apply List.eq_nil_iff_forall_not_mem.2
     intro x hx
     obtain ⟨k, hkk, _⟩ := (zcM p fn x).1 hx
     simp [zaT, h0] at hkk
   simp +decide only [hz, e0, hpin, go_sem, reduceAdd, reduceMul]
 | true =>
 have hr := zx h0
 obtain ⟨f, rfl⟩ : ∃ f : Nat, fn = f := ⟨fn.toNat, by omega⟩
 have hfl : f < p.fns.length := by omega
 have c1 : ((f : Int) < (p.fns.length : Int)) = True := eq_true (by omega)
 have hmem : ∀ x, x ∈ fnNs p f ↔ x ∈ zI p.nodes p.fns[f].body \/ x ∈ zI p.nodes p.fns[f].ret := fun x => by
   rw [zcM]
   unfold zaT
   rw [h0, if_pos rfl, yS hfl]
   cases h1 : p.fns[f].ret == -1 with
   | true =>
     have h2 : p.fns[f].ret = -1 := by simpa using h1
     have h3 : zI p.nodes (-1) = [] := by
       have : zQ p.nodes (-1) = 0 := by unfold zQ; rw [show inI (-1) 0 (p.nodes.length - 1) = false by simp [inI]]; rfl
       unfold zI; rw [this]; rfl
     rw [h2, h3]; simp
   | false => simp
 have hris : (fnNs p f).Pairwise (· < ·) := zat _ _
 simp +decide only [zb, za, hpin, go_sem, reduceAdd, reduceMul]
 refine Tri.step zf ?_
 simp +decide only [zb, za, hpin, go_sem, reduceAdd, reduceMul]
 refine Tri.sched zf [(1, true), (3, true), (0, true), (2, false), (4, false), (5, false), (6, false), (7, false), (8, false)] zV (by kernel_rfl) (fun C2 hC2 => ?_)
 have hp2 := zY hC2 hpin
 simp +decide only [c1, zh _ _ hfl, fnC, zb, za, Int.natCast_nonneg, hp2, go_sem, reduceAdd, reduceMul]
 refine zd (Yf p p.fns[f].body hn hk) hp2 ?_
 simp +decide only [zb, za, hp2, go_sem, reduceAdd, reduceMul]
 refine Tri.ent ?_ (Ent.frz hfull 6)
 refine Tri.step zf ?_
 simp +decide only [zb, za, hpin, go_sem, reduceAdd, reduceMul]
 refine Tri.sched zf [(1, true), (3, true), (0, true), (2, false), (4, false), (5, false), (6, false), (7, false), (8, false)] zV (by kernel_rfl) (fun C2 hC2 => ?_)
 have hp2 := zY hC2 hpin
 simp +decide only [c1, zh _ _ hfl, fnC, zb, za, Int.natCast_nonneg, hp2, go_sem, reduceAdd, reduceMul]
 refine zd (Yf p p.fns[f].ret hn hk) hp2 ?_
 simp +decide only [zb, za, hp2, go_sem, reduceAdd, reduceMul]
 refine Tri.ent ?_ (Ent.frz hfull 7)
 have hal := yu p.nodes p.fns[f].body
 have hbl := yu p.nodes p.fns[f].ret
 have har := zaK p.nodes p.fns[f].body
 have hbr := zaK p.nodes p.fns[f].ret
 generalize zI p.nodes p.fns[f].body = a at hal har hmem |-
 generalize zI p.nodes p.fns[f].ret = b at hbl hbr hmem |-
 generalize fnNs p f = Z at hmem hris |-
 refine Tri.step zf ?_
 simp +decide only [zb, za, hpin, go_sem, reduceAdd, reduceMul]
 refine Tri.step zf ?_
 simp +decide only [zb, za, hpin, go_sem, reduceAdd, reduceMul]
 refine Tri.step zf ?_
 simp +decide only [zb, za, hpin, go_sem, reduceAdd, reduceMul]
 refine Tri.loop (ι := Nat × Nat × List Int) (fun q => q.1 <= a.length /\ q.2.1 <= b.length /\ Zip a b q.1 q.2.1 q.2.2) (fun q => ⟨102, [(5, .ref 5 [] q.2.2.length), (6, roI a), (7, roI b), (8, vI q.1), (9, vI q.2.1)], [(5, .row 3 (row1 cI q.2.2))]⟩) (fun q => (a.length - q.1) + (b.length - q.2.1)) (0, 0, []) ⟨by simp, by simp, by simp, by simp, by simp, by simp, by simp⟩ ?_ ?_
 · refine Ent.weak ?_ ?_ ?_ ?_ <;> simp +decide [subT, subB, zk, zj, zl, St.get, look, vI, vB, vS, cI, cS, cB, zg, roI, row1]
 · rintro ⟨i, k, l⟩ ⟨hi, hkk, hZ⟩
   simp only at hi hkk hZ |-
   have hfew := hZ.few
   have hb1 : l.length + 1 <= 140737488355328 := by omega
   have hb2 : (l.length + 1) * 8 <= 140737488355328 := by omega
   refine ze zf _ ?_
   by_cases h' : i < a.length
   · have e1 : ((i : Int) < (a.length : Int)) = True := by simp [h']
     by_cases h2 : k < b.length
     · have e2 : ((k : Int) < (b.length : Int)) = True := by simp [h2]
       have e3 : ((b.length : Int) <= (k : Int)) = False := by simp; omega
       simp +decide only [e1, e2, vB, vI, hpin, go_sem, reduceAdd, reduceMul]
       refine Tri.sched zf [(0, true), (1, false), (2, false), (3, false), (4, false), (5, true), (6, false), (7, false), (8, false), (9, false), (10, true), (11, true), (12, true), (14, true), (15, true), (16, true), (13, true), (17, false), (18, false), (19, false), (20, false)] zV (by kernel_rfl) (fun C2 hC2 => ?_)
       have hp2 := zY hC2 hpin
       simp +decide only [e1, e2, e3, zq _ _ h', zq _ _ h2, Int.natCast_nonneg, vB, vI, hp2, go_sem, reduceAdd, reduceMul]
       by_cases hlt : a[i] < b[k]
       · have e4 : (a[i] < b[k]) = True := eq_true hlt
         have hsn := xC cI l a[i]
         simp only [cI] at hsn
         have hnx := hZ.left har hbr h' (fun y hy => by
           rcases (ZF h2 y).1 hy with rfl | hy
           · exact hlt
           · have := Yt hbr h2 y hy; omega)
         simp +decide only [e1, e4, hb1, hb2, zq _ _ h', Int.natCast_nonneg, hpin, go_sem, reduceAdd, reduceMul]
         refine ⟨(i + 1, k, l ++ [a[i]]), ⟨h', hkk, hnx⟩, by simp only; omega, Ent.weak ?_ ?_ ?_ ?_⟩
         all_goals simp +decide [subT, subB, zk, zj, zl, St.get, look, vI, vB, vS, cI, cS, cB, zg, roI, hsn, w64s (n := a.length) h' (by omega)]
       · have e4 : (a[i] < b[k]) = False := eq_false hlt
         have hsn := xC cI l b[k]
         simp only [cI] at hsn
         simp +decide only [e1, e4, vB, vI, hpin, go_sem, reduceAdd, reduceMul]
         refine Tri.sched zf [(0, true), (1, false), (2, false), (3, false), (4, false), (5, true), (6, true), (7, true), (9, true), (10, true), (11, true), (8, true), (12, false), (13, false), (14, false)] zV (by kernel_rfl) (fun C2 hC2 => ?_)
         have hp2 := zY hC2 hpin
         simp +decide only [e1, e2, e3, zq _ _ h', zq _ _ h2, Int.natCast_nonneg, vB, vI, hp2, go_sem, reduceAdd, reduceMul]
         cases heq : a[i] == b[k] with
         | true =>
           have he : a[i] = b[k] := by simpa using heq
           have hnx := hZ.both har hbr h' h2 he
           simp +decide only [e2, heq, hb1, hb2, zq _ _ h2, Int.natCast_nonneg, hpin, go_sem, reduceAdd, reduceMul]
           refine ⟨(i + 1, k + 1, l ++ [b[k]]), ⟨h', h2, hnx⟩, by simp only; omega, Ent.weak ?_ ?_ ?_ ?_⟩
           all_goals simp +decide [subT, subB, zk, zj, zl, St.get, look, vI, vB, vS, cI, cS, cB, zg, roI, hsn, w64s (n := a.length) h' (by omega), w64s (n := b.length) h2 (by omega)]
         | false =>
           have he : a[i] ≠ b[k] := by simpa using heq
           have hnx := hZ.right har hbr h2 (fun y hy => by
             rcases (ZF h' y).1 hy with rfl | hy
             · omega
             · have := Yt har h' y hy; omega)
           simp +decide only [e2, heq, hb1, hb2, zq _ _ h2, Int.natCast_nonneg, hpin, go_sem, reduceAdd, reduceMul]
           refine ⟨(i, k + 1, l ++ [b[k]]), ⟨hi, h2, hnx⟩, by simp only; omega, Ent.weak ?_ ?_ ?_ ?_⟩
           all_goals simp +decide [subT, subB, zk, zj, zl, St.get, look, vI, vB, vS, cI, cS, cB, zg, roI, hsn, w64s (n := b.length) h2 (by omega)]
     · have hke : k = b.length := by omega
       have e3 : ((b.length : Int) <= (k : Int)) = True := by simp; omega
       have houtb : (row1 cI b).getD k [] = [] := by simp [List.getD, List.getElem?_eq_none (show (row1 cI b).length <= k by rw [zS]; omega)]
       have hsn := xC cI l a[i]
       simp only [cI] at hsn
       have hnx := hZ.left har hbr h' (fun y hy => by rw [hke, List.drop_length] at hy; simp at hy)
       simp +decide only [e1, vB, vI, hpin, go_sem, reduceAdd, reduceMul]
       refine Tri.sched zf [(0, true), (1, false), (2, false), (3, false), (4, false), (5, true), (6, false), (7, false), (8, false), (9, false), (10, true), (11, true), (12, true), (14, true), (15, true), (16, true), (13, true), (17, false), (18, false), (19, false), (20, false)] zV (by kernel_rfl) (fun C2 hC2 => ?_)
       have hp2 := zY hC2 hpin
       simp +decide only [e1, e3, hb1, hb2, houtb, zq _ _ h', Int.natCast_nonneg, vB, vI, hp2, hpin, go_sem, reduceAdd, reduceMul]
       refine ⟨(i + 1, k, l ++ [a[i]]), ⟨h', hkk, hnx⟩, by simp only; omega, Ent.weak ?_ ?_ ?_ ?_⟩
       all_goals simp +decide [subT, subB, zk, zj, zl, St.get, look, vI, vB, vS, cI, cS, cB, zg, roI, hsn, w64s (n := a.length) h' (by omega)]
   · have hie : i = a.length := by omega
     have e1 : ((i : Int) < (a.length : Int)) = False := by simp; omega
     have hout : (row1 cI a).getD i [] = [] := by simp [List.getD, List.getElem?_eq_none (show (row1 cI a).length <= i by rw [zS]; omega)]
     by_cases h2 : k < b.length
     · have e2 : ((k : Int) < (b.length : Int)) = True := by simp [h2]
       have e3 : ((b.length : Int) <= (k : Int)) = False := by simp; omega
       have hsn := xC cI l b[k]
       simp only [cI] at hsn
       have hnx := hZ.right har hbr h2 (fun y hy => by rw [hie, List.drop_length] at hy; simp at hy)
       simp +decide only [e1, e2, vB, vI, hpin, go_sem, reduceAdd, reduceMul]
       refine Tri.sched zf [(0, true), (1, false), (2, false), (3, false), (4, false), (5, true), (6, false), (7, false), (8, false), (9, false), (10, true), (11, true), (12, true), (14, true), (15, true), (16, true), (13, true), (17, false), (18, false), (19, false), (20, false)] zV (by kernel_rfl) (fun C2 hC2 => ?_)
       have hp2 := zY hC2 hpin
       simp +decide only [e1, e2, e3, hout, zq _ _ h2, Int.natCast_nonneg, vB, vI, hp2, go_sem, reduceAdd, reduceMul]
       refine Tri.sched zf [(0, true), (1, false), (2, false), (3, false), (4, false), (5, true), (6, true), (7, true), (9, true), (10, true), (11, true), (8, true), (12, false), (13, false), (14, false)] zV (by kernel_rfl) (fun C3 hC3 => ?_)
       have hp3 := zY hC3 hpin
       simp +decide only [e1, e2, e3, hout, zq _ _ h2, Int.natCast_nonneg, hb1, hb2, vB, vI, hp3, hpin, go_sem, reduceAdd, reduceMul]
       refine ⟨(i, k + 1, l ++ [b[k]]), ⟨hi, h2, hnx⟩, by simp only; omega, Ent.weak ?_ ?_ ?_ ?_⟩
       all_goals simp +decide [subT, subB, zk, zj, zl, St.get, look, vI, vB, vS, cI, cS, cB, zg, roI, hsn, w64s (n := b.length) h2 (by omega)]
     · have hke : k = b.length := by omega
       have e2 : ((k : Int) < (b.length : Int)) = False := by simp; omega
       have hz : Z = l := zaU hris hZ.ri (fun x => by
         rw [hmem x, hZ.mem x, hie, hke, List.take_length, List.take_length])
       simp +decide only [e1, e2, hz, vB, vI, hpin, go_sem, reduceAdd, reduceMul]
       refine ze zf _ ?_
       simp +decide only [hpin, go_sem, reduceAdd, reduceMul]
theorem zbp (p : ProgramD) (fn : Int) {i : Nat} (h : i < (fnNs p fn).length) : 0 <= (fnNs p fn)[i] /\ (fnNs p fn)[i].toNat < p.nodes.length := by
 obtain ⟨k, _, hk⟩ := (zcM p fn _).1 (List.getElem_mem h)
 have := yF hk
 exact ⟨this.1, this.2.1⟩
theorem zbL : ∀ l : List NodeD, sumN yz l <= 3 * l.length + sumN zB l
 | [] => by simp [sumN]
 | x :: r => by
   have := zbL r
   simp only [sumN, List.map_cons, List.sum_cons, List.length_cons] at this |-
   have e : yz x <= 3 + zB x := by unfold yz zB; omega
   omega
theorem zgA {α : Type} {f : α -> Nat} (h : ∀ x, f x = 2) : ∀ l : List α, sumN f l = 2 * l.length
 | [] => by simp [sumN]
 | x :: r => by
   have := zgA h r
   simp only [sumN, List.map_cons, List.sum_cons, List.length_cons] at this |-
   rw [h x]; omega
theorem zgi : ∀ l : List FnD, sumN fnN l <= 4 * l.length + 2 * sumN yb l
 | [] => by simp [sumN]
 | x :: r => by
   have := zgi r
   simp only [sumN, List.map_cons, List.sum_cons, List.length_cons] at this |-
   have e : fnN x <= 4 + 2 * yb x := by
     have h := zgA (f := zU) (fun _ => rfl) x.params
     unfold fnN yb; omega
   omega
def Zy (x : ParamD) : Bool := Yx x.name && inI x.ty 1 4
def zaD (p : ProgramD) (f : FnD) : Bool := inI f.body 0 (p.nodes.length - 1) && (nAt p.nodes f.body).kind == 20
def zhG (p : ProgramD) (f : FnD) : Bool := if f.res == 0 then f.ret == -1 else (inI f.ret 0 (p.nodes.length - 1) && xw (nAt p.nodes f.ret).kind)
def YV (p : ProgramD) (f : FnD) : Bool := Yx f.name && (decide ((f.params.length : Int) <= 3) && (inI f.res 0 2 && (f.params.all Zy && (zaD p f && zhG p f))))
theorem zlN (n : Int) : (bne n 0 && (bne n 1 && bne n 2)) = !inI n 0 2 := by
 simp only [inI, bne]
 by_cases h0 : n = 0
 · subst h0; rfl
 · by_cases h1 : n = 1
   · subst h1; rfl
   · by_cases h2 : n = 2
     · subst h2; rfl
     · have e0 : (n == 0) = false := by simpa using h0
       have e1 : (n == 1) = false := by simpa using h1
       have e2 : (n == 2) = false := by simpa using h2
       rw [e0, e1, e2]
       simp
       omega
theorem zbD {α : Type} {f : α -> Bool} {l : List α} {i : Nat} (h : i < l.length) (hf : f l[i] = false) : l.all f = false := by
 rw [List.all_eq_false]; exact ⟨l[i], List.getElem_mem h, by simp [hf]⟩
theorem zkb {α : Type} {f : α -> Bool} {l : List α} {i : Nat} (h : i < l.length) (hq : (l.take i).all f = true) (hf : f l[i] = true) : (l.take (i + 1)).all f = true := by
 rw [List.take_succ_eq_append_getElem h, List.all_append, hq]; simp [hf]
theorem zaR (nodes : List NodeD) (j : Nat) : (∃ x, (rows (zg true) nodes).getD j [] = zg true x) \/ (rows (zg true) nodes).getD j [] = [] := by
 by_cases h : j < nodes.length
 · exact Or.inl ⟨nodes[j], zh _ _ h⟩
 · right
   simp [List.getD, List.getElem?_eq_none (show (rows (zg true) nodes).length <= j by rw [yg]; omega)]
theorem ziV (p : ProgramD) (f : FnD) (hn : p.nodes.length <= 1048576) (hpl : f.params.length <= 1048576) : zu Tryz.prog 204 [.ro (zb p), .ro (fnW f)] (fun rs st => rs = [(false, [cB (YV p f)])]) := by
 refine zm (fn := Tryz.f204) (c := Tryz.f204.body.getD .skip) (res := [.tm 4]) (n := 91) zf (by kernel_rfl) (by rfl) (by kernel_rfl) (by rfl) (by rfl) (by simp [zp]) (fun uf ub C hpin hpin2 hfull => ?_)
 simp only [Tryz.f204, Option.getD_some]
 have w1 : IntKind.i64.wrap ((p.nodes.length : Int) - 1) = (p.nodes.length : Int) - 1 := w64 (by omega) (by omega)
 refine Tri.step zf ?_
 simp +decide only [zb, za, fnW, zb, za, fnW, fnC, hpin, go_sem, reduceAdd, reduceMul]
 refine Tri.ent ?_ (Ent.frb hfull 2)
 refine Tri.ent ?_ (Ent.frb hfull 3)
 unfold YV
 cases h0 : Yx f.name with
 | false =>
   refine Tri.step zf ?_
   simp +decide only [zb, za, fnW, fnC, hpin, go_sem, reduceAdd, reduceMul]
   refine zd (xL f.name) hpin ?_
   simp +decide only [h0, zb, za, fnW, fnC, hpin, go_sem, reduceAdd, reduceMul]
 | true =>
 by_cases h1 : (f.params.length : Int) <= 3
 case neg =>
   have c1 : ((3 : Int) < (f.params.length : Int)) = True := eq_true (by omega)
   have c2 : decide ((f.params.length : Int) <= 3) = false := decide_eq_false h1
   refine Tri.step zf ?_
   simp +decide only [zb, za, fnW, fnC, hpin, go_sem, reduceAdd, reduceMul]
   refine zd (xL f.name) hpin ?_
   simp +decide only [h0, c1, c2, gt_iff_lt, zb, za, fnW, fnC, hpin, go_sem, reduceAdd, reduceMul]
 have c1 : ((3 : Int) < (f.params.length : Int)) = False := eq_false (by omega)
 have c2 : decide ((f.params.length : Int) <= 3) = true := decide_eq_true h1
 have h3 := zlN f.res
 cases h2 : inI f.res 0 2 with
 | false =>
   rw [h2] at h3
   have z0 : (f.res == 0) = false := by cases h : f.res == 0 with | false => rfl | true => simp [bne, h] at h3
   have z1 : (f.res == 1) = false := by cases h : f.res == 1 with | false => rfl | true => simp [bne, h] at h3
   have z2 : (f.res == 2) = false := by cases h : f.res == 2 with | false => rfl | true => simp [bne, h] at h3
   refine Tri.step zf ?_
   simp +decide only [zb, za, fnW, fnC, hpin, go_sem, reduceAdd, reduceMul]
   refine zd (xL f.name) hpin ?_
   simp +decide only [h0, c1, c2, z0, z1, z2, bne, gt_iff_lt, zb, za, fnW, fnC, hpin, go_sem, reduceAdd, reduceMul]
 | true =>
 rw [h2] at h3
 refine Tri.stop zf ⟨91, [(2, .ip (za true p) 0), (3, .ip (fnC true f) 0), (4, vB false)], []⟩ ?_ ?_
 · simp +decide only [zb, za, fnW, fnC, hpin, go_sem, reduceAdd, reduceMul]
   refine zd (xL f.name) hpin ?_
   cases z0 : f.res == 0 with
   | true => simp +decide only [h0, c1, c2, z0, bne, gt_iff_lt, zb, za, fnW, fnC, hpin, go_sem, reduceAdd, reduceMul]; refine Ent.weak ?_ ?_ ?_ ?_ <;> simp +decide [subT, subB, zk, zj, zl, St.get, look, vI, vB, vS, cI, cS, cB, zg, roI, za, fnC]
   | false =>
   cases z1 : f.res == 1 with
   | true => simp +decide only [h0, c1, c2, z0, z1, bne, gt_iff_lt, zb, za, fnW, fnC, hpin, go_sem, reduceAdd, reduceMul]; refine Ent.weak ?_ ?_ ?_ ?_ <;> simp +decide [subT, subB, zk, zj, zl, St.get, look, vI, vB, vS, cI, cS, cB, zg, roI, za, fnC]
   | false =>
   have z2 : (f.res == 2) = true := by cases h : f.res == 2 with | true => rfl | false => simp [bne, z0, z1, h] at h3
   simp +decide only [h0, c1, c2, z0, z1, z2, bne, gt_iff_lt, zb, za, fnW, fnC, hpin, go_sem, reduceAdd, reduceMul]; refine Ent.weak ?_ ?_ ?_ ?_ <;> simp +decide [subT, subB, zk, zj, zl, St.get, look, vI, vB, vS, cI, cS, cB, zg, roI, za, fnC]
 simp +decide only [c2, Bool.true_and]
 refine Tri.step zf ?_
 simp +decide only [za, fnC, vB, vI, zb, za, fnW, fnC, hpin, go_sem, reduceAdd, reduceMul]
 refine Tri.loop (ι := Nat) (fun i => i <= f.params.length /\ (f.params.take i).all Zy = true) (fun i => ⟨91, [(2, .ip (za true p) 0), (3, .ip (fnC true f) 0), (4, vB false), (33, .imm 107 (rows (zr true) f.params)), (34, vI f.params.length), (35, vI i)], []⟩) (fun i => f.params.length - i) 0 ⟨by simp, by simp⟩ ?_ ?_
 · refine Ent.weak ?_ ?_ ?_ ?_ <;> simp +decide [subT, subB, zk, zj, zl, St.get, look, vI, vB, vS, cI, cS, cB, zg, roI, za, fnC]
 · rintro i ⟨hi, hq⟩
   refine ze zf _ ?_
   by_cases h' : i < f.params.length
   · have e : ((i : Int) < (f.params.length : Int)) = True := by simp [h']
     simp +decide only [e, h', zh _ _ h', zr, Int.natCast_nonneg, vB, vI, zb, za, fnW, fnC, hpin, go_sem, reduceAdd, reduceMul]
     refine zd (xL f.params[i].name) hpin ?_
     cases g0 : Yx f.params[i].name with
     | false =>
       have hf := zbD (f := Zy) h' (by simp only [Zy, g0, Bool.false_and])
       simp +decide only [hf, zb, za, fnW, fnC, hpin, go_sem, reduceAdd, reduceMul]
     | true =>
     simp +decide only [zb, za, fnW, fnC, hpin, go_sem, reduceAdd, reduceMul]
     refine zd (in' f.params[i].ty 1 4) hpin ?_
     cases g1 : inI f.params[i].ty 1 4 with
     | false =>
       have hf := zbD (f := Zy) h' (by simp only [Zy, g1, Bool.and_false])
       simp +decide only [hf, zb, za, fnW, fnC, hpin, go_sem, reduceAdd, reduceMul]
     | true =>
     have hnx := zkb (f := Zy) h' hq (by simp only [Zy, g0, g1]; rfl)
     simp +decide only [zb, za, fnW, fnC, hpin, go_sem, reduceAdd, reduceMul]
     refine ⟨i + 1, ⟨h', hnx⟩, by omega, Ent.weak ?_ ?_ ?_ ?_⟩
     all_goals simp +decide [subT, subB, zk, zj, zl, St.get, look, vI, vB, vS, cI, cS, cB, zg, roI, za, fnC, w64s (n := f.params.length) h' (by omega)]
   · have hil : i = f.params.length := by omega
     subst hil
     have e : ((f.params.length : Int) < (f.params.length : Int)) = False := by simp
     rw [List.take_length] at hq
     rw [hq, Bool.true_and]
     simp +decide only [e, vB, vI, zb, za, fnW, fnC, hpin, go_sem, reduceAdd, reduceMul]
     refine Tri.step zf ?_
     simp +decide only [w1, za, fnC, zb, za, fnW, fnC, hpin, go_sem, reduceAdd, reduceMul]
     refine zd (in' f.body 0 (p.nodes.length - 1)) hpin ?_
     unfold zaD
     cases g0 : inI f.body 0 (p.nodes.length - 1) with
     | false =>
       rcases zaR p.nodes f.body.toNat with ⟨y, hy⟩ | hy
       · simp +decide only [hy, zg, zb, za, fnW, fnC, hpin, go_sem, reduceAdd, reduceMul]
       · simp +decide only [hy, zb, za, fnW, fnC, hpin, go_sem, reduceAdd, reduceMul]
     | true =>
     have hr := zx g0
     have z0 : (0 <= f.body) = True := eq_true hr.1
     have hbl : f.body.toNat < p.nodes.length := by omega
     have z1 : (f.body < (p.nodes.length : Int)) = True := eq_true (by omega)
     rw [xz hbl]
     simp +decide only [z0, z1, zh _ _ hbl, zg, bne, za, fnC, zb, za, fnW, fnC, hpin, go_sem, reduceAdd, reduceMul]
     cases g1 : p.nodes[f.body.toNat].kind == 20 with
     | false => simp +decide only [g1, zb, za, fnW, fnC, hpin, go_sem, reduceAdd, reduceMul]
     | true =>
     simp +decide only [g1, zb, za, fnW, fnC, hpin, go_sem, reduceAdd, reduceMul]
     refine Tri.step zf ?_
     unfold zhG
     cases g2 : f.res == 0 with
     | true =>
       simp +decide only [g2, za, fnC, zb, za, fnW, fnC, hpin, go_sem, reduceAdd, reduceMul]
     | false =>
       rw [if_neg (by decide)]
       simp +decide only [g2, za, fnC, zb, za, fnW, fnC, hpin, go_sem, reduceAdd, reduceMul]
       refine ze zf _ ?_
       simp +decide only [w1, za, fnC, zb, za, fnW, fnC, hpin, go_sem, reduceAdd, reduceMul]
       refine zd (in' f.ret 0 (p.nodes.length - 1)) hpin ?_
       cases g3 : inI f.ret 0 (p.nodes.length - 1) with
       | false =>
         rcases zaR p.nodes f.ret.toNat with ⟨y, hy⟩ | hy
         · simp +decide only [hy, zg, zb, za, fnW, fnC, hpin, go_sem, reduceAdd, reduceMul]
         · simp +decide only [hy, zb, za, fnW, fnC, hpin, go_sem, reduceAdd, reduceMul]
       | true =>
       have hr2 := zx g3
       have y0 : (0 <= f.ret) = True := eq_true hr2.1
       have hrl : f.ret.toNat < p.nodes.length := by omega
       have y1 : (f.ret < (p.nodes.length : Int)) = True := eq_true (by omega)
       rw [xz hrl]
       simp +decide only [y0, y1, zh _ _ hrl, zg, za, fnC, zb, za, fnW, fnC, hpin, go_sem, reduceAdd, reduceMul]
       refine zd (Yk p.nodes[f.ret.toNat].kind) hpin ?_
       simp +decide only [zb, za, fnW, fnC, hpin, go_sem, reduceAdd, reduceMul]
theorem ziU (p : ProgramD) (i : Nat) (hil : i < p.fns.length) (hf : p.fns.length <= 1048576) (hn : p.nodes.length <= 1048576) (hpl : ∀ f ∈ p.fns, f.params.length <= 1048576) : zu Tryz.prog 195 [.ro (zb p), .ro (.sc (.int .i64 i))] (fun rs st => rs = [(false, [cB (YV p p.fns[i] && xE p.fns p.fns[i].name == (i : Int))])]) := by
 have hplx := hpl p.fns[i] (List.getElem_mem hil)
 have hns := zaE p p.fns[i].name hf
 generalize hfe : p.fns[i] = f at hplx hns
 have ci : ((i : Int) < (p.fns.length : Int)) = True := eq_true (by omega)
 refine zm (fn := Tryz.f195) (c := Tryz.f195.body.getD .skip) (res := [.tm 4]) (n := 102) zf (by kernel_rfl) (by rfl) (by kernel_rfl) (by rfl) (by rfl) (by simp [zp]) (fun uf ub C hpin hpin2 hfull => ?_)
 simp only [Tryz.f195, Option.getD_some]
 have w1 : IntKind.i64.wrap ((p.nodes.length : Int) - 1) = (p.nodes.length : Int) - 1 := w64 (by omega) (by omega)
 refine Tri.step zf ?_
 simp +decide only [zb, za, fnW, zb, za, fnW, fnC, hpin, go_sem, reduceAdd, reduceMul]
 refine Tri.ent ?_ (Ent.frb hfull 2)
 refine Tri.step zf ?_
 simp +decide only [ci, zh _ _ hil, hfe, fnC, zb, za, Int.natCast_nonneg, zb, za, fnW, fnC, hpin, go_sem, reduceAdd, reduceMul]
 refine Tri.ent ?_ (Ent.frb hfull 5)
 refine Tri.step zf ?_
 simp +decide only [fnC, za, zb, za, fnW, fnC, hpin, go_sem, reduceAdd, reduceMul]
 refine zd (YR f.name) hpin ?_
 unfold YV
 cases h0 : Yx f.name with
 | false => simp +decide only [zb, za, fnW, fnC, hpin, go_sem, reduceAdd, reduceMul]
 | true =>
 simp +decide only [fnC, za, zb, zb, za, fnW, fnC, hpin, go_sem, reduceAdd, reduceMul]
 refine zd hns hpin ?_
 cases ha : xE p.fns f.name == (i : Int) with
 | false => simp +decide only [ha, bne, zb, za, fnW, fnC, hpin, go_sem, reduceAdd, reduceMul]
 | true =>
 by_cases h1 : (f.params.length : Int) <= 3
 case neg =>
   have c1 : ((3 : Int) < (f.params.length : Int)) = True := eq_true (by omega)
   have c2 : decide ((f.params.length : Int) <= 3) = false := decide_eq_false h1
   simp +decide only [ha, bne, c1, c2, gt_iff_lt, zb, za, fnW, fnC, hpin, go_sem, reduceAdd, reduceMul]
 have c1 : ((3 : Int) < (f.params.length : Int)) = False := eq_false (by omega)
 have c2 : decide ((f.params.length : Int) <= 3) = true := decide_eq_true h1
 simp +decide only [ha, bne, c1, c2, gt_iff_lt, zb, za, fnW, fnC, hpin, go_sem, reduceAdd, reduceMul]
 refine zd (xv f.res 0 2) hpin ?_
 cases h2 : inI f.res 0 2 with
 | false => simp +decide only [zb, za, fnW, fnC, hpin, go_sem, reduceAdd, reduceMul]
 | true =>
 simp +decide only [zb, za, fnW, fnC, hpin, go_sem, reduceAdd, reduceMul]
 refine Tri.step zf ?_
 simp +decide only [za, fnC, zb, za, fnW, fnC, hpin, go_sem, reduceAdd, reduceMul]
 refine Tri.loop (ι := Nat) (fun i => i <= f.params.length /\ (f.params.take i).all Zy = true) (fun i => ⟨102, [(2, .ip (za true p) 0), (4, vB false), (5, .ip (fnC true f) 0), (6, vI i)], []⟩) (fun i => f.params.length - i) 0 ⟨by simp, by simp⟩ ?_ ?_
 · refine Ent.weak ?_ ?_ ?_ ?_ <;> simp +decide [subT, subB, zk, zj, zl, St.get, look, vI, vB, vS, cI, cS, cB, zg, roI, za, fnC]
 · rintro i ⟨hi, hq⟩
   refine ze zf _ ?_
   by_cases h' : i < f.params.length
   · have e : ((i : Int) < (f.params.length : Int)) = True := by simp [h']
     simp +decide only [e, h', zh _ _ h', zr, fnC, za, Int.natCast_nonneg, vB, vI, zb, za, fnW, fnC, hpin, go_sem, reduceAdd, reduceMul]
     refine zd (YR f.params[i].name) hpin ?_
     cases g0 : Yx f.params[i].name with
     | false =>
       have hf := zbD (f := Zy) h' (by simp only [Zy, g0, Bool.false_and])
       simp +decide only [hf, zb, za, fnW, fnC, hpin, go_sem, reduceAdd, reduceMul]
     | true =>
     simp +decide only [e, h', zh _ _ h', zr, fnC, za, Int.natCast_nonneg, vB, vI, zb, za, fnW, fnC, hpin, go_sem, reduceAdd, reduceMul]
     refine zd (xv f.params[i].ty 1 4) hpin ?_
     cases g1 : inI f.params[i].ty 1 4 with
     | false =>
       have hf := zbD (f := Zy) h' (by simp only [Zy, g1, Bool.and_false])
       simp +decide only [hf, zb, za, fnW, fnC, hpin, go_sem, reduceAdd, reduceMul]
     | true =>
     have hnx := zkb (f := Zy) h' hq (by simp only [Zy, g0, g1]; rfl)
     simp +decide only [zb, za, fnW, fnC, hpin, go_sem, reduceAdd, reduceMul]
     refine ⟨i + 1, ⟨h', hnx⟩, by omega, Ent.weak ?_ ?_ ?_ ?_⟩
     all_goals simp +decide [subT, subB, zk, zj, zl, St.get, look, vI, vB, vS, cI, cS, cB, zg, roI, za, fnC, w64s (n := f.params.length) h' (by omega)]
   · have hil : i = f.params.length := by omega
     subst hil
     have e : ((f.params.length : Int) < (f.params.length : Int)) = False := by simp
     rw [List.take_length] at hq
     rw [hq, Bool.true_and]
     simp +decide only [e, fnC, za, vB, vI, zb, za, fnW, fnC, hpin, go_sem, reduceAdd, reduceMul]
     refine Tri.step zf ?_
     simp +decide only [w1, za, fnC, zb, za, fnW, fnC, hpin, go_sem, reduceAdd, reduceMul]
     refine zd (xv f.body 0 (p.nodes.length - 1)) hpin ?_
     unfold zaD
     cases g0 : inI f.body 0 (p.nodes.length - 1) with
     | false =>
       rcases zaR p.nodes f.body.toNat with ⟨y, hy⟩ | hy
       · simp +decide only [hy, zg, zb, za, fnW, fnC, hpin, go_sem, reduceAdd, reduceMul]
       · simp +decide only [hy, zb, za, fnW, fnC, hpin, go_sem, reduceAdd, reduceMul]
     | true =>
     have hr := zx g0
     have z0 : (0 <= f.body) = True := eq_true hr.1
     have hbl : f.body.toNat < p.nodes.length := by omega
     have z1 : (f.body < (p.nodes.length : Int)) = True := eq_true (by omega)
     rw [xz hbl]
     simp +decide only [z0, z1, zh _ _ hbl, zg, bne, za, fnC, zb, za, fnW, fnC, hpin, go_sem, reduceAdd, reduceMul]
     cases g1 : p.nodes[f.body.toNat].kind == 20 with
     | false => simp +decide only [g1, zb, za, fnW, fnC, hpin, go_sem, reduceAdd, reduceMul]
     | true =>
     simp +decide only [g1, zb, za, fnW, fnC, hpin, go_sem, reduceAdd, reduceMul]
     refine Tri.step zf ?_
     unfold zhG
     cases g2 : f.res == 0 with
     | true =>
       simp +decide only [g2, c2, za, fnC, zb, za, fnW, fnC, hpin, go_sem, reduceAdd, reduceMul]
     | false =>
       rw [if_neg (by decide)]
       simp +decide only [g2, za, fnC, zb, za, fnW, fnC, hpin, go_sem, reduceAdd, reduceMul]
       refine ze zf _ ?_
       simp +decide only [w1, za, fnC, zb, za, fnW, fnC, hpin, go_sem, reduceAdd, reduceMul]
       refine zd (xv f.ret 0 (p.nodes.length - 1)) hpin ?_
       cases g3 : inI f.ret 0 (p.nodes.length - 1) with
       | false =>
         rcases zaR p.nodes f.ret.toNat with ⟨y, hy⟩ | hy
         · simp +decide only [hy, zg, zb, za, fnW, fnC, hpin, go_sem, reduceAdd, reduceMul]
         · simp +decide only [hy, zb, za, fnW, fnC, hpin, go_sem, reduceAdd, reduceMul]
       | true =>
       have hr2 := zx g3
       have y0 : (0 <= f.ret) = True := eq_true hr2.1
       have hrl : f.ret.toNat < p.nodes.length := by omega
       have y1 : (f.ret < (p.nodes.length : Int)) = True := eq_true (by omega)
       rw [xz hrl]
       simp +decide only [y0, y1, zh _ _ hrl, zg, za, fnC, zb, za, fnW, fnC, hpin, go_sem, reduceAdd, reduceMul]
       refine zd (Yj p.nodes[f.ret.toNat].kind) hpin ?_
       simp +decide only [c2, zb, za, fnW, fnC, hpin, go_sem, reduceAdd, reduceMul]
def tabI (n : Nat) (f : Nat -> Int) : List Int := (List.range n).map f
theorem zi (n : Nat) (f : Nat -> Int) : (tabI n f).length = n := by simp [tabI]
theorem xk {n : Nat} {f : Nat -> Int} {i : Nat} (h : i < n) : (row1 cI (tabI n f))[i]? = some [cI (f i)] := by simp [row1, tabI, h]
theorem zjr {n : Nat} {f : Nat -> Int} {i : Nat} (h : i < n) : (row1 cI (tabI n f)).getD i [] = [cI (f i)] := by simp [List.getD, xk h]
theorem ZH {n : Nat} {f g : Nat -> Int} (h : ∀ m, m < n -> f m = g m) : tabI n f = tabI n g := by
 unfold tabI
 apply List.map_congr_left
 intro m hm
 exact h m (List.mem_range.1 hm)
theorem zaO {n : Nat} {f : Nat -> Int} {i : Nat} (h : i < n) (v : Int) : (row1 cI (tabI n f)).set i [cI v] = row1 cI (tabI n (fun m => if m = i then v else f m)) := by
 apply List.ext_getElem?
 intro j
 by_cases hj : j < n
 · rw [xk hj]
   by_cases e : i = j
   · subst e
     rw [List.getElem?_set_self (by rw [zS, zi]; exact h)]
     simp
   · rw [List.getElem?_set_ne e, xk hj, if_neg (fun he => e he.symm)]
 · rw [List.getElem?_eq_none (by rw [List.length_set, zS, zi]; omega), List.getElem?_eq_none (by rw [zS, zi]; omega)]
theorem zgD (n : Nat) : List.replicate n [cI 0] = row1 cI (tabI n (fun _ => 0)) := by
 apply List.ext_getElem?
 intro j
 by_cases hj : j < n
 · rw [xk hj]; simp [hj]
 · rw [List.getElem?_eq_none (by simp; omega), List.getElem?_eq_none (by rw [zS, zi]; omega)]
def cntK (nodes : List NodeD) (i m : Nat) : Nat := sumN (fun x => x.kids.count (m : Int)) (nodes.take i)
def cntF (nodes : List NodeD) (x : NodeD) (i j : Nat) : Nat -> Int := fun m => (cntK nodes i m : Int) + ((x.kids.take j).count (m : Int) : Int)
theorem XE {nodes : List NodeD} {i : Nat} (h : i < nodes.length) (m : Nat) : cntK nodes (i + 1) m = cntK nodes i m + nodes[i].kids.count (m : Int) := by
 unfold cntK sumN
 rw [List.take_succ_eq_append_getElem h, List.map_append, List.sum_append]
 simp only [List.map_cons, List.map_nil, List.sum_cons, List.sum_nil, Nat.add_zero]
theorem zel {nodes : List NodeD} (hd : ∀ x ∈ nodes, x.kids.Nodup) (m : Nat) : ∀ i, i <= nodes.length -> cntK nodes i m <= i
 | 0, _ => by simp [cntK, sumN]
 | i + 1, h => by
   rw [XE h]
   have h1 := zel hd m i (by omega)
   have h2 := List.nodup_iff_count.1 (hd nodes[i] (List.getElem_mem h)) (m : Int)
   omega
theorem zhP (nodes : List NodeD) (x : NodeD) (i m : Nat) : cntF nodes x i 0 m = cntK nodes i m := by simp [cntF]
theorem zhR {nodes : List NodeD} {i : Nat} (h : i < nodes.length) (m : Nat) : cntF nodes nodes[i] i nodes[i].kids.length m = cntK nodes (i + 1) m := by
 unfold cntF; rw [List.take_length, XE h]; simp
theorem zhQ {nodes : List NodeD} {x : NodeD} {i j : Nat} (h : j < x.kids.length) (h0 : 0 <= x.kids[j]) : (fun m => if m = x.kids[j].toNat then cntF nodes x i j x.kids[j].toNat + 1 else cntF nodes x i j m) = cntF nodes x i (j + 1) := by
 funext m
 unfold cntF
 rw [List.take_succ_eq_append_getElem h, List.count_append]
 by_cases e : m = x.kids[j].toNat
 · subst e
   have e2 : ((x.kids[j].toNat : Nat) : Int) = x.kids[j] := by omega
   rw [if_pos rfl, e2]
   simp; omega
 · rw [if_neg e]
   have e2 : (x.kids[j] == (m : Int)) = false := by
     apply Bool.eq_false_iff.2; intro hh; have := eq_of_beq hh; omega
   simp [List.count_cons, e2]
theorem zfm {nodes : List NodeD} {x : NodeD} (hd : ∀ x ∈ nodes, x.kids.Nodup) (hx : x.kids.Nodup) {i : Nat} (hi : i <= nodes.length) (j m : Nat) : 0 <= cntF nodes x i j m /\ cntF nodes x i j m <= (i : Int) + 1 := by
 have h1 := zel hd m i hi
 have h2 := List.nodup_iff_count.1 (hx.sublist (List.take_sublist j x.kids)) (m : Int)
 unfold cntF
 omega
def rts (f : FnD) : List Int := [f.body, f.ret]
def rtsP (f : FnD) (b : Nat) : List Int := ((rts f).take b).filter (fun k => decide (0 <= k))
def allR (fns : List FnD) : List Int := fns.flatMap (fun f => rtsP f 2)
theorem zhX {fns : List FnD} {i : Nat} (h : i < fns.length) : allR (fns.take (i + 1)) = allR (fns.take i) ++ rtsP fns[i] 2 := by
 unfold allR
 rw [List.take_succ_eq_append_getElem h, List.flatMap_append]
 simp
theorem zkc {fns : List FnD} {i : Nat} (h : i < fns.length) (b : Nat) : (allR (fns.take i) ++ rtsP fns[i] b).Sublist (allR fns) := by
 have e : allR fns = allR (fns.take i) ++ (rtsP fns[i] 2 ++ allR (fns.drop (i + 1))) := by
   conv => lhs; rw [<- List.take_append_drop i fns, List.drop_eq_getElem_cons h]
   unfold allR
   rw [List.flatMap_append, List.flatMap_cons]
 rw [e]
 refine (List.Sublist.refl _).append (List.Sublist.trans ?_ (List.sublist_append_left _ _))
 unfold rtsP
 refine List.Sublist.filter _ ?_
 have : (rts fns[i]).take 2 = rts fns[i] := rfl
 rw [this]
 exact List.take_sublist _ _
theorem zgX (f : FnD) {b : Nat} (h : b < (rts f).length) (hk : (rts f)[b] < 0) : rtsP f (b + 1) = rtsP f b := by
 unfold rtsP
 rw [List.take_succ_eq_append_getElem h, List.filter_append]
 have : ¬ (0 <= (rts f)[b]) := by omega
 simp [this]
theorem zgW (f : FnD) {b : Nat} (h : b < (rts f).length) (hk : 0 <= (rts f)[b]) : rtsP f (b + 1) = rtsP f b ++ [(rts f)[b]] := by
 unfold rtsP
 rw [List.take_succ_eq_append_getElem h, List.filter_append]
 simp [hk]
theorem zio (f : FnD) (b : Nat) : (rtsP f b).length <= 2 := by
 unfold rtsP
 refine Nat.le_trans (List.length_filter_le _ _) ?_
 rw [List.length_take]; simp [rts]; omega
theorem zer : ∀ fns : List FnD, (allR fns).length <= 2 * fns.length
 | [] => by simp [allR]
 | f :: r => by
   have h1 := zer r
   have h2 := zio f 2
   unfold allR at h1 |-
   rw [List.flatMap_cons, List.length_append, List.length_cons]
   omega
def zdC (p : ProgramD) (m : Nat) : Bool := (((cntK p.nodes p.nodes.length m : Nat) : Int) + 1000 * ((allR p.fns).count (m : Int) : Int) == 1) || (((cntK p.nodes p.nodes.length m : Nat) : Int) + 1000 * ((allR p.fns).count (m : Int) : Int) == 1000)
def xi (p : ProgramD) (i : Nat) : Bool := YV p (fAt p.fns i) && xE p.fns (fAt p.fns i).name == (i : Int)
def xG (p : ProgramD) : Bool := inI p.nodes.length 1 300 && (inI p.fns.length 1 8 && (!(zQ p.nodes (p.nodes.length - 1) == 0) && (zJ (xi p) p.fns.length && zJ (zdC p) p.nodes.length)))
theorem ziE {nodes : List NodeD} {k : Nat} (h : ZC nodes k = true) : (nAt nodes k).kids.Nodup := by
 unfold ZC at h
 simp only [Bool.and_eq_true, Xc] at h
 obtain ⟨_, _, _, _, _, h⟩ := h
 rw [yn] at h
 rw [List.Nodup, List.pairwise_iff_getElem]
 intro i j hi hj hij e
 have := h j hj
 simp only [kidB, Bool.and_eq_true] at this
 have h2 := this.2.1
 have hg : (nAt nodes k).kids.getD j 0 = (nAt nodes k).kids[j] := by simp [List.getD, hj]
 rw [hg, <- e] at h2
 have : (nAt nodes k).kids[i] ∈ (nAt nodes k).kids.take j := by
   rw [List.mem_take_iff_getElem]
   exact ⟨i, by omega, rfl⟩
 simp [this] at h2
structure Deep (nodes : List NodeD) : Prop where
 pos : 0 < nodes.length
 deep : ∀ n, n < nodes.length -> dAt nodes n ≠ 0
theorem zjf {nodes : List NodeD} (h : (zQ nodes (nodes.length - 1) == 0) = false) : Deep nodes := by
 obtain ⟨n, hn, hl, hd⟩ := Zm h
 exact ⟨by omega, fun m hm => YX nodes (by omega) hd⟩
theorem Deep.nodup {nodes : List NodeD} (h : Deep nodes) : ∀ x ∈ nodes, x.kids.Nodup := fun x hx => by
 obtain ⟨i, hi, rfl⟩ := List.getElem_of_mem hx
 have := ziE (Zn nodes i (h.deep i hi))
 rwa [zF hi] at this
theorem Deep.kid {nodes : List NodeD} (h : Deep nodes) {i : Nat} (hi : i < nodes.length) : ∀ kid ∈ nodes[i].kids, 0 <= kid /\ kid < i /\ kid.toNat < i := (zaz (h.deep i hi)).2
theorem xT {p : ProgramD} {f : FnD} (h : YV p f = true) : (0 <= f.body /\ f.body.toNat < p.nodes.length) /\ (f.ret < 0 \/ (0 <= f.ret /\ f.ret.toNat < p.nodes.length)) := by
 simp only [YV, Bool.and_eq_true, zaD] at h
 obtain ⟨_, _, _, _, ⟨hb, _⟩, hr⟩ := h
 have hb := zx hb
 refine ⟨⟨hb.1, by omega⟩, ?_⟩
 unfold zhG at hr
 split at hr
 · left; have := eq_of_beq hr; omega
 · simp only [Bool.and_eq_true] at hr
   have := zx hr.1
   right; omega
def metF (p : ProgramD) (R : List Int) : Nat -> Int := fun m => if (m : Int) ∈ R then -1 else (cntK p.nodes p.nodes.length m : Int)
theorem zmi (p : ProgramD) (R : List Int) {k : Int} (h0 : 0 <= k) : (fun m => if m = k.toNat then -1 else metF p R m) = metF p (R ++ [k]) := by
 funext m
 unfold metF
 by_cases e : m = k.toNat
 · subst e
   have e2 : ((k.toNat : Nat) : Int) = k := by omega
   rw [if_pos rfl, e2]; simp
 · rw [if_neg e]
   have e2 : ¬ (m : Int) = k := by omega
   simp [e2]
def Met (p : ProgramD) (R : List Int) : Prop := R.Nodup /\ ∀ k ∈ R, cntK p.nodes p.nodes.length k.toNat = 0
theorem Met.snoc {p : ProgramD} {R : List Int} (h : Met p R) {k : Int} (h0 : 0 <= k) (hm : metF p R k.toNat = 0) : Met p (R ++ [k]) := by
 have e2 : ((k.toNat : Nat) : Int) = k := by omega
 unfold metF at hm
 rw [e2] at hm
 split at hm
 · omega
 · rename_i hn
   refine ⟨?_, fun q hq => ?_⟩
   · rw [List.nodup_append]
     exact ⟨h.1, by simp, fun a ha b hb => by simp at hb; subst hb; exact fun e => hn (e ▸ ha)⟩
   · rcases List.mem_append.1 hq with hq | hq
     · exact h.2 q hq
     · simp at hq; subst hq; omega
theorem znA {p : ProgramD} {R : List Int} {k : Int} (h0 : 0 <= k) (hl : k.toNat < p.nodes.length) (hs : (R ++ [k]).Sublist (allR p.fns)) (hm : metF p R k.toNat ≠ 0) : zJ (zdC p) p.nodes.length = false := by
 refine zw hl ?_
 have e2 : ((k.toNat : Nat) : Int) = k := by omega
 have hc := hs.count_le k
 rw [List.count_append] at hc
 have h1 : [k].count k = 1 := by simp
 unfold metF at hm
 unfold zdC
 rw [e2] at hm |-
 have h2 : 0 < R.count k \/ 0 < cntK p.nodes p.nodes.length k.toNat := by
   split at hm
   · rename_i hmem; exact Or.inl (List.count_pos_iff.2 hmem)
   · right; omega
 generalize cntK p.nodes p.nodes.length k.toNat = c at h2 |-
 generalize (allR p.fns).count k = d at hc |-
 rw [Bool.or_eq_false_iff]
 constructor
 · apply Bool.eq_false_iff.2; intro hh; have := eq_of_beq hh; omega
 · apply Bool.eq_false_iff.2; intro hh; have := eq_of_beq hh; omega
theorem znz {p : ProgramD} (h : Met p (allR p.fns)) (hD : Deep p.nodes) (hl : p.nodes.length <= 300) (m : Nat) : (metF p (allR p.fns) m == 1 || metF p (allR p.fns) m == -1) = zdC p m := by
 have hle := zel hD.nodup m p.nodes.length (Nat.le_refl _)
 unfold zdC metF
 by_cases hm : (m : Int) ∈ allR p.fns
 · have h1 : (allR p.fns).count (m : Int) = 1 := by
     rw [h.1.count, if_pos hm]
   have h2 := h.2 _ hm
   have e2 : (m : Int).toNat = m := by omega
   rw [e2] at h2
   rw [if_pos hm, h1, h2]; rfl
 · have h1 : (allR p.fns).count (m : Int) = 0 := List.count_eq_zero.2 hm
   rw [if_neg hm, h1]
   generalize cntK p.nodes p.nodes.length m = c at hle
   have e3 : ((c : Int) == -1) = false := by apply Bool.eq_false_iff.2; intro hh; have := eq_of_beq hh; omega
   have e4 : ((c : Int) + 1000 * ((0 : Nat) : Int) == 1000) = false := by apply Bool.eq_false_iff.2; intro hh; have := eq_of_beq hh; omega
   have e5 : ((c : Int) + 1000 * ((0 : Nat) : Int)) = c := by omega
   rw [e3, e4, e5]
theorem zeB (p : ProgramD) (hf : p.fns.length <= 1048576) (hn : p.nodes.length <= 1048576) (hk : ∀ x ∈ p.nodes, x.kids.length <= 1048576) (hpl : ∀ f ∈ p.fns, f.params.length <= 1048576) : zu Tryz.prog 175 [.ro (zb p)] (fun rs st => rs = [(false, [cB (xG p)])]) := by
 refine zm (fn := Tryz.f175) (c := Tryz.f175.body.getD .skip) (res := [.tm 2]) (n := 115) zf (by kernel_rfl) (by rfl) (by kernel_rfl) (by rfl) (by rfl) (by simp [zp]) (fun uf ub C hpin hpin2 hfull => ?_)
 simp only [Tryz.f175, Option.getD_some]
 have w1 : IntKind.i64.wrap ((p.nodes.length : Int) - 1) = (p.nodes.length : Int) - 1 := w64 (by omega) (by omega)
 refine Tri.step zf ?_
 simp +decide only [zb, za, zi, hpin, go_sem, reduceAdd, reduceMul]
 refine Tri.ent ?_ (Ent.frb hfull 1)
 refine Tri.step zf ?_
 simp +decide only [zb, za, zi, hpin, go_sem, reduceAdd, reduceMul]
 refine Tri.step zf ?_
 simp +decide only [zb, za, zi, hpin, go_sem, reduceAdd, reduceMul]
 refine zd (in' p.nodes.length 1 300) hpin ?_
 unfold xG
 cases h0 : inI p.nodes.length 1 300 with
 | false => simp +decide only [zi, hpin, go_sem, reduceAdd, reduceMul]
 | true =>
 simp +decide only [zb, za, zi, hpin, go_sem, reduceAdd, reduceMul]
 refine zd (in' p.fns.length 1 8) hpin ?_
 cases h1 : inI p.fns.length 1 8 with
 | false => simp +decide only [zi, hpin, go_sem, reduceAdd, reduceMul]
 | true =>
 simp +decide only [w1, zb, za, zi, hpin, go_sem, reduceAdd, reduceMul]
 refine zd (zaI p.nodes (p.nodes.length - 1) hn hk) hpin ?_
 cases h2 : zQ p.nodes (p.nodes.length - 1) == 0 with
 | true => simp +decide only [h2, zi, hpin, go_sem, reduceAdd, reduceMul]
 | false =>
 have hD := zjf h2
 have hr0 := zx h0
 have hr1 := zx h1
 have hz := zgD p.nodes.length
 have hm1 : ((8 : Nat) : Int) * (p.nodes.length : Int) <= 281474976710656 := by omega
 have hm2 : (p.nodes.length : Int) <= 140737488355328 := by omega
 simp only [cI] at hz
 simp +decide only [h2, zi, hpin, go_sem, reduceAdd, reduceMul]
 refine Tri.step zf ?_
 simp +decide only [hm1, hm2, hz, Int.natCast_nonneg, za, zi, hpin, go_sem, reduceAdd, reduceMul]
 refine Tri.step zf ?_
 simp +decide only [za, zi, hpin, go_sem, reduceAdd, reduceMul]
 refine Tri.loop (ι := Nat) (fun i => i <= p.nodes.length) (fun i => ⟨115, [(1, .ip (za true p) 0), (2, vB false), (4, .ref 4 [] p.nodes.length), (39, .imm 83 (rows (zg true) p.nodes)), (40, vI p.nodes.length), (41, vI i)], [(4, .row 3 (row1 cI (tabI p.nodes.length fun m => (cntK p.nodes i m : Int))))]⟩) (fun i => p.nodes.length - i) 0 (by simp) ?_ ?_
 · have e0 : tabI p.nodes.length (fun m => (cntK p.nodes 0 m : Int)) = tabI p.nodes.length (fun _ => 0) := ZH (fun m _ => by simp [cntK, sumN])
   refine Ent.weak ?_ ?_ ?_ ?_ <;> simp +decide [subT, subB, zk, zj, zl, St.get, look, vI, vB, vS, cI, cS, cB, zg, roI, za, e0]
 · rintro i hi
   refine ze zf _ ?_
   by_cases h' : i < p.nodes.length
   · have e : ((i : Int) < (p.nodes.length : Int)) = True := by simp [h']
     have hkx := hk p.nodes[i] (List.getElem_mem h')
     have hkid := hD.kid h'
     have hnd := hD.nodup p.nodes[i] (List.getElem_mem h')
     have hlast := zhR h'
     have hx : (rows (zg true) p.nodes).getD i [] = zg true p.nodes[i] := zh _ _ h'
     generalize p.nodes[i] = x at hx hkx hkid hnd hlast
     simp +decide only [e, h', hx, zg, Int.natCast_nonneg, za, vB, vI, zi, hpin, go_sem, reduceAdd, reduceMul]
     refine Tri.loop (ι := Nat) (fun j => j <= x.kids.length) (fun j => ⟨115, [(1, .ip (za true p) 0), (2, vB false), (4, .ref 4 [] p.nodes.length), (39, .imm 83 (rows (zg true) p.nodes)), (40, vI p.nodes.length), (41, vI i), (46, roI x.kids), (47, vI x.kids.length), (48, vI j)], [(4, .row 3 (row1 cI (tabI p.nodes.length (cntF p.nodes x i j))))]⟩) (fun j => x.kids.length - j) 0 (by simp) ?_ ?_
     · have e0 : tabI p.nodes.length (cntF p.nodes x i 0) = tabI p.nodes.length (fun m => (cntK p.nodes i m : Int)) := ZH (fun m _ => zhP p.nodes x i m)
       refine Ent.weak ?_ ?_ ?_ ?_ <;> simp +decide [subT, subB, zk, zj, zl, St.get, look, vI, vB, vS, cI, cS, cB, zg, roI, za, e0]
     · rintro j hj
       refine ze zf _ ?_
       by_cases hj' : j < x.kids.length
       · have e2 : ((j : Int) < (x.kids.length : Int)) = True := by simp [hj']
         obtain ⟨q0, q1, q2⟩ := hkid x.kids[j] (List.getElem_mem hj')
         have hkl : x.kids[j].toNat < p.nodes.length := by omega
         have z0 : (0 <= x.kids[j]) = True := eq_true q0
         have z1 : (x.kids[j] < (p.nodes.length : Int)) = True := eq_true (by omega)
         have hrg := zfm hD.nodup hnd (Nat.le_of_lt h') j x.kids[j].toNat
         have wv : IntKind.i64.wrap (cntF p.nodes x i j x.kids[j].toNat + 1) = cntF p.nodes x i j x.kids[j].toNat + 1 := w64 (by omega) (by omega)
         have hset := zaO (f := cntF p.nodes x i j) hkl (cntF p.nodes x i j x.kids[j].toNat + 1)
         have hgq := xk (f := cntF p.nodes x i j) hkl
         rw [zhQ hj' q0] at hset
         simp only [cI] at hset hgq
         simp +decide only [e2, z0, z1, wv, hset, hgq, hkl, zq _ _ hj', Int.natCast_nonneg, za, vB, vI, zi, hpin, go_sem, reduceAdd, reduceMul]
         refine ⟨j + 1, hj', by omega, Ent.weak ?_ ?_ ?_ ?_⟩
         all_goals simp +decide [subT, subB, zk, zj, zl, St.get, look, vI, vB, vS, cI, cS, cB, zg, roI, za, hgq, hset, w64s (n := x.kids.length) hj' (by omega)]
       · have hjl : j = x.kids.length := by omega
         subst hjl
         have e2 : ((x.kids.length : Int) < (x.kids.length : Int)) = False := by simp
         have e9 : tabI p.nodes.length (cntF p.nodes x i x.kids.length) = tabI p.nodes.length (fun m => (cntK p.nodes (i + 1) m : Int)) := ZH (fun m _ => hlast m)
         simp +decide only [e2, za, vB, vI, zi, hpin, go_sem, reduceAdd, reduceMul]
         refine ⟨i + 1, h', by omega, Ent.weak ?_ ?_ ?_ ?_⟩
         all_goals simp +decide [subT, subB, zk, zj, zl, St.get, look, vI, vB, vS, cI, cS, cB, zg, roI, za, e9, w64s (n := p.nodes.length) h' (by omega)]
   · have hil : i = p.nodes.length := by omega
     subst hil
     have e : ((p.nodes.length : Int) < (p.nodes.length : Int)) = False := by simp
     have e1 : (fun m => (cntK p.nodes p.nodes.length m : Int)) = metF p (allR (p.fns.take 0)) := by funext m; simp [allR, metF]
     simp +decide only [e, za, vB, vI, zi, hpin, go_sem, reduceAdd, reduceMul]
     rw [e1]
     refine Tri.step zf ?_
     simp +decide only [za, zi, hpin, go_sem, reduceAdd, reduceMul]
     refine Tri.loop (ι := Nat) (fun i => i <= p.fns.length /\ Met p (allR (p.fns.take i)) /\ zJ (xi p) i = true) (fun i => ⟨115, [(1, .ip (za true p) 0), (2, vB false), (4, .ref 4 [] p.nodes.length), (61, .imm 104 (rows (fnC true) p.fns)), (62, vI p.fns.length), (63, vI i)], [(4, .row 3 (row1 cI (tabI p.nodes.length (metF p (allR (p.fns.take i))))))]⟩) (fun i => p.fns.length - i) 0 ⟨by simp, ⟨by simp [allR], by simp [allR]⟩, rfl⟩ ?_ ?_
     · refine Ent.weak ?_ ?_ ?_ ?_ <;> simp +decide [subT, subB, zk, zj, zl, St.get, look, vI, vB, vS, cI, cS, cB, zg, roI, za]
     · rintro i ⟨hi, hM, hB⟩
       refine ze zf _ ?_
       by_cases h' : i < p.fns.length
       · have e : ((i : Int) < (p.fns.length : Int)) = True := by simp [h']
         have hplx := hpl p.fns[i] (List.getElem_mem h')
         have hx : (rows (fnC true) p.fns).getD i [] = fnC true p.fns[i] := zh _ _ h'
         have hnext := zhX h'
         have hsub := fun b => zkc h' b
         have hfr : xi p i = (YV p p.fns[i] && xE p.fns p.fns[i].name == (i : Int)) := by unfold xi; rw [yS h']
         generalize p.fns[i] = f at hx hplx hnext hsub hfr
         have hf2 := ziV p f hn hplx
         have ha2 := YW p f.name hf
         simp only [fnW, zb] at hf2 ha2
         simp +decide only [e, h', hx, fnC, Int.natCast_nonneg, za, vB, vI, zi, hpin, go_sem, reduceAdd, reduceMul]
         refine zd hf2 hpin ?_
         cases g0 : YV p f with
         | false =>
           have hff : zJ (xi p) p.fns.length = false := zw h' (by rw [hfr, g0]; rfl)
           simp +decide only [hff, zi, hpin, go_sem, reduceAdd, reduceMul]
         | true =>
         simp +decide only [zi, hpin, go_sem, reduceAdd, reduceMul]
         refine zd ha2 hpin ?_
         cases g1 : xE p.fns f.name == (i : Int) with
         | false =>
           have hff : zJ (xi p) p.fns.length = false := zw h' (by rw [hfr, g0, g1]; rfl)
           simp +decide only [hff, g1, bne, zi, hpin, go_sem, reduceAdd, reduceMul]
         | true =>
         have hB2 : zJ (xi p) (i + 1) = true := by rw [zN, hB, hfr, g0, g1]; rfl
         have hrt := xT g0
         simp +decide only [g1, bne, zi, hpin, go_sem, reduceAdd, reduceMul]
         have hR : ∀ b (hb : b < (rts f).length), (rts f)[b] < 0 \/ (0 <= (rts f)[b] /\ (rts f)[b].toNat < p.nodes.length) := fun b hb => by
           match b, hb with
           | 0, _ => exact Or.inr hrt.1
           | 1, _ => exact hrt.2
         have hRl : (rts f).length = 2 := rfl
         have er : [[D.sc (Value.int IntKind.i64 f.body)], [D.sc (Value.int IntKind.i64 f.ret)]] = row1 cI (rts f) := rfl
         have e0 : allR (p.fns.take i) ++ rtsP f 0 = allR (p.fns.take i) := by simp [rtsP]
         have hskip := fun b (hb : b < (rts f).length) (hk : (rts f)[b] < 0) => zgX f hb hk
         have htake := fun b (hb : b < (rts f).length) (hk : 0 <= (rts f)[b]) => zgW f hb hk
         rw [er]
         generalize allR (p.fns.take i) = A at hM hnext hsub e0 |-
         generalize hB4 : rts f = L at hR hRl hskip htake
         refine Tri.loop (ι := Nat) (fun b => b <= 2 /\ Met p (A ++ rtsP f b)) (fun b => ⟨115, [(1, .ip (za true p) 0), (2, vB false), (4, .ref 4 [] p.nodes.length), (61, .imm 104 (rows (fnC true) p.fns)), (62, vI p.fns.length), (63, vI i), (84, .ref 3084 [] 2), (85, vI (2 : Nat)), (86, vI b)], [(3084, .row 3 (row1 cI L)), (4, .row 3 (row1 cI (tabI p.nodes.length (metF p (A ++ rtsP f b)))))]⟩) (fun b => 2 - b) 0 ⟨by simp, by rw [e0]; exact hM⟩ ?_ ?_
         · refine Ent.weak ?_ ?_ ?_ ?_ <;> simp +decide [subT, subB, zk, zj, zl, St.get, look, vI, vB, vS, cI, cS, cB, zg, roI, za, e0]
         · rintro b ⟨hb, hM2⟩
           refine ze zf _ ?_
           by_cases hb' : b < 2
           · have e3 : ((b : Int) < ((2 : Nat) : Int)) = True := by simp; omega
             have hbl : b < L.length := by omega
             simp +decide only [e3, hb', yd _ _ hbl, Int.natCast_nonneg, za, vB, vI, zi, hpin, go_sem, reduceAdd, reduceMul]
             rcases hR b hbl with hneg | ⟨y0, y1⟩
             · have y2 : (L[b] < 0) = True := eq_true hneg
               have e4 := hskip b hbl hneg
               simp +decide only [y2, zi, hpin, go_sem, reduceAdd, reduceMul]
               refine ⟨b + 1, ⟨hb', by rw [e4]; exact hM2⟩, by omega, Ent.weak ?_ ?_ ?_ ?_⟩
               all_goals simp +decide [subT, subB, zk, zj, zl, St.get, look, vI, vB, vS, cI, cS, cB, zg, roI, za, e4, w64s (n := 2) hb' (by omega)]
             · have y2 : (L[b] < 0) = False := eq_false (by omega)
               have y3 : (0 <= L[b]) = True := eq_true y0
               have y4 : (L[b] < (p.nodes.length : Int)) = True := eq_true (by omega)
               have e4 := htake b hbl y0
               have hset := zaO (f := metF p (A ++ rtsP f b)) y1 (-1)
               have hgq := xk (f := metF p (A ++ rtsP f b)) y1
               rw [zmi p _ y0] at hset
               simp only [cI, List.append_assoc] at hset hgq
               rw [<- e4] at hset
               simp +decide only [y2, y3, y4, y1, hgq, Int.natCast_nonneg, bne, zi, hpin, go_sem, reduceAdd, reduceMul]
               cases hm : metF p (A ++ rtsP f b) L[b].toNat == 0 with
               | false =>
                 have hbad := znA y0 y1 (by rw [List.append_assoc, <- e4]; exact hsub (b + 1)) (by simpa using hm)
                 simp +decide only [hm, hbad, zi, hpin, go_sem, reduceAdd, reduceMul]
               | true =>
                 have hM3 := hM2.snoc y0 (by simpa using hm)
                 rw [List.append_assoc, <- e4] at hM3
                 simp +decide only [hm, hset, hgq, y1, y3, y4, zi, hpin, go_sem, reduceAdd, reduceMul]
                 refine ⟨b + 1, ⟨hb', hM3⟩, by omega, Ent.weak ?_ ?_ ?_ ?_⟩
                 all_goals simp +decide [subT, subB, zk, zj, zl, St.get, look, vI, vB, vS, cI, cS, cB, zg, roI, za, hgq, hset, w64s (n := 2) hb' (by omega)]
           · have hb2 : b = 2 := by omega
             subst hb2
             have e3 : (((2 : Nat) : Int) < ((2 : Nat) : Int)) = False := by simp
             rw [<- hnext] at hM2
             simp +decide only [e3, za, vB, vI, zi, hpin, go_sem, reduceAdd, reduceMul]
             refine ⟨i + 1, ⟨h', hM2, hB2⟩, by omega, Ent.weak ?_ ?_ ?_ ?_⟩
             all_goals simp +decide [subT, subB, zk, zj, zl, St.get, look, vI, vB, vS, cI, cS, cB, zg, roI, za, hnext, w64s (n := p.fns.length) h' (by omega)]
       · have hil : i = p.fns.length := by omega
         subst hil
         have e : ((p.fns.length : Int) < (p.fns.length : Int)) = False := by simp
         rw [List.take_length] at hM
         have hlast := znz hM hD (by omega)
         simp +decide only [e, za, vB, vI, zi, hpin, go_sem, reduceAdd, reduceMul]
         rw [hB]
         refine Tri.step zf ?_
         simp +decide only [za, zi, hpin, go_sem, reduceAdd, reduceMul]
         refine Tri.loop (ι := Nat) (fun m => m <= p.nodes.length /\ zJ (zdC p) m = true) (fun m => ⟨115, [(2, vB false), (102, .ref 4 [] p.nodes.length), (103, vI p.nodes.length), (104, vI m)], [(4, .row 3 (row1 cI (tabI p.nodes.length (metF p (allR p.fns)))))]⟩) (fun m => p.nodes.length - m) 0 ⟨by simp, rfl⟩ ?_ ?_
         · refine Ent.weak ?_ ?_ ?_ ?_ <;> simp +decide [subT, subB, zk, zj, zl, St.get, look, vI, vB, vS, cI, cS, cB, zg, roI, za]
         · rintro m ⟨hm, hq⟩
           refine ze zf _ ?_
           by_cases h' : m < p.nodes.length
           · have e : ((m : Int) < (p.nodes.length : Int)) = True := by simp [h']
             have hgq := xk (f := metF p (allR p.fns)) h'
             have hl := hlast m
             simp only [cI] at hgq
             generalize metF p (allR p.fns) m = z at hgq hl
             simp +decide only [e, h', hgq, Int.natCast_nonneg, bne, vB, vI, zi, hpin, go_sem, reduceAdd, reduceMul]
             cases z1 : z == 1 with
             | true =>
               rw [z1, Bool.true_or] at hl
               simp +decide only [z1, zi, hpin, go_sem, reduceAdd, reduceMul]
               refine ⟨m + 1, ⟨h', by rw [zN, hq, <- hl]; rfl⟩, by omega, Ent.weak ?_ ?_ ?_ ?_⟩
               all_goals simp +decide [subT, subB, zk, zj, zl, St.get, look, vI, vB, vS, cI, cS, cB, zg, roI, w64s (n := p.nodes.length) h' (by omega)]
             | false =>
               rw [z1, Bool.false_or] at hl
               cases z2 : z == -1 with
               | true =>
                 rw [z2] at hl
                 simp +decide only [z1, z2, zi, hpin, go_sem, reduceAdd, reduceMul]
                 refine ⟨m + 1, ⟨h', by rw [zN, hq, <- hl]; rfl⟩, by omega, Ent.weak ?_ ?_ ?_ ?_⟩
                 all_goals simp +decide [subT, subB, zk, zj, zl, St.get, look, vI, vB, vS, cI, cS, cB, zg, roI, w64s (n := p.nodes.length) h' (by omega)]
               | false =>
                 rw [z2] at hl
                 have hf : zJ (zdC p) p.nodes.length = false := zw h' hl.symm
                 simp +decide only [z1, z2, hf, zi, hpin, go_sem, reduceAdd, reduceMul]
           · have hil : m = p.nodes.length := by omega
             subst hil
             have e : ((p.nodes.length : Int) < (p.nodes.length : Int)) = False := by simp
             rw [hq]
             simp +decide only [e, vB, vI, zi, hpin, go_sem, reduceAdd, reduceMul]
             refine ze zf _ ?_
             simp +decide only [zi, hpin, go_sem, reduceAdd, reduceMul]
theorem zkj (nodes : List NodeD) (hD : Deep nodes) (hn : nodes.length <= 1048576) (hk : ∀ x ∈ nodes, x.kids.length <= 1048576) : zu Tryz.prog 194 [.ro (.imm 83 (rows (zg true) nodes))] (fun rs st => rs = [(false, [.row false 3 (row1 cI (tabI nodes.length fun m => (cntK nodes nodes.length m : Int)))])]) := by
 refine zm (fn := Tryz.f194) (c := Tryz.f194.body.getD .skip) (res := [.tm 2]) (n := 39) zf (by kernel_rfl) (by rfl) (by kernel_rfl) (by rfl) (by rfl) (by simp [zp]) (fun uf ub C hpin hpin2 hfull => ?_)
 simp only [Tryz.f194, Option.getD_some]
 have hz := zgD nodes.length
 have hm1 : ((8 : Nat) : Int) * (nodes.length : Int) <= 281474976710656 := by omega
 have hm2 : (nodes.length : Int) <= 140737488355328 := by omega
 simp only [cI] at hz
 refine Tri.step zf ?_
 simp +decide only [zi, hpin, go_sem, reduceAdd, reduceMul]
 refine Tri.step zf ?_
 simp +decide only [hm1, hm2, hz, Int.natCast_nonneg, zi, hpin, go_sem, reduceAdd, reduceMul]
 refine Tri.step zf ?_
 simp +decide only [zi, hpin, go_sem, reduceAdd, reduceMul]
 refine Tri.loop (ι := Nat) (fun i => i <= nodes.length) (fun i => ⟨39, [(0, .imm 83 (rows (zg true) nodes)), (3, .ref 3 [] nodes.length), (4, vI i)], [(3, .row 3 (row1 cI (tabI nodes.length fun m => (cntK nodes i m : Int))))]⟩) (fun i => nodes.length - i) 0 (by simp) ?_ ?_
 · have e0 : tabI nodes.length (fun m => (cntK nodes 0 m : Int)) = tabI nodes.length (fun _ => 0) := ZH (fun m _ => by simp [cntK, sumN])
   refine Ent.weak ?_ ?_ ?_ ?_ <;> simp +decide [subT, subB, zk, zj, zl, St.get, look, vI, vB, vS, cI, cS, cB, zg, roI, e0]
 · rintro i hi
   refine ze zf _ ?_
   by_cases h' : i < nodes.length
   · have e : ((i : Int) < (nodes.length : Int)) = True := by simp [h']
     have hkx := hk nodes[i] (List.getElem_mem h')
     have hkid := hD.kid h'
     have hnd := hD.nodup nodes[i] (List.getElem_mem h')
     have hlast := zhR h'
     generalize hx : nodes[i] = x at hkx hkid hnd hlast
     simp +decide only [e, vB, vI, zi, hpin, go_sem, reduceAdd, reduceMul]
     refine Tri.loop (ι := Nat) (fun j => j <= x.kids.length) (fun j => ⟨39, [(0, .imm 83 (rows (zg true) nodes)), (3, .ref 3 [] nodes.length), (4, vI i), (5, vI j)], [(3, .row 3 (row1 cI (tabI nodes.length (cntF nodes x i j))))]⟩) (fun j => x.kids.length - j) 0 (by simp) ?_ ?_
     · have e0 : tabI nodes.length (cntF nodes x i 0) = tabI nodes.length (fun m => (cntK nodes i m : Int)) := ZH (fun m _ => zhP nodes x i m)
       refine Ent.weak ?_ ?_ ?_ ?_ <;> simp +decide [subT, subB, zk, zj, zl, St.get, look, vI, vB, vS, cI, cS, cB, zg, roI, e0]
     · rintro j hj
       refine ze zf _ ?_
       by_cases hj' : j < x.kids.length
       · have e2 : ((j : Int) < (x.kids.length : Int)) = True := by simp [hj']
         obtain ⟨q0, q1, q2⟩ := hkid x.kids[j] (List.getElem_mem hj')
         have hkl : x.kids[j].toNat < nodes.length := by omega
         have z0 : (0 <= x.kids[j]) = True := eq_true q0
         have z1 : (x.kids[j] < (nodes.length : Int)) = True := eq_true (by omega)
         have hrg := zfm hD.nodup hnd (Nat.le_of_lt h') j x.kids[j].toNat
         have wv : IntKind.i64.wrap (cntF nodes x i j x.kids[j].toNat + 1) = cntF nodes x i j x.kids[j].toNat + 1 := w64 (by omega) (by omega)
         have hset := zaO (f := cntF nodes x i j) hkl (cntF nodes x i j x.kids[j].toNat + 1)
         have hgq := xk (f := cntF nodes x i j) hkl
         rw [zhQ hj' q0] at hset
         simp only [cI] at hset hgq
         simp +decide only [e, e2, z0, z1, wv, hset, hgq, hkl, zh _ _ h', hx, zg, zq _ _ hj', Int.natCast_nonneg, vB, vI, zi, hpin, go_sem, reduceAdd, reduceMul]
         refine ⟨j + 1, hj', by omega, Ent.weak ?_ ?_ ?_ ?_⟩
         all_goals simp +decide [subT, subB, zk, zj, zl, St.get, look, vI, vB, vS, cI, cS, cB, zg, roI, hgq, hset, w64s (n := x.kids.length) hj' (by omega)]
       · have hjl : j = x.kids.length := by omega
         subst hjl
         have e2 : ((x.kids.length : Int) < (x.kids.length : Int)) = False := by simp
         have e9 : tabI nodes.length (cntF nodes x i x.kids.length) = tabI nodes.length (fun m => (cntK nodes (i + 1) m : Int)) := ZH (fun m _ => hlast m)
         simp +decide only [e, e2, zh _ _ h', hx, zg, Int.natCast_nonneg, vB, vI, zi, hpin, go_sem, reduceAdd, reduceMul]
         refine ⟨i + 1, h', by omega, Ent.weak ?_ ?_ ?_ ?_⟩
         all_goals simp +decide [subT, subB, zk, zj, zl, St.get, look, vI, vB, vS, cI, cS, cB, zg, roI, e9, w64s (n := nodes.length) h' (by omega)]
   · have hil : i = nodes.length := by omega
     subst hil
     have e : ((nodes.length : Int) < (nodes.length : Int)) = False := by simp
     simp +decide only [e, vB, vI, zi, hpin, go_sem, reduceAdd, reduceMul]
     refine ze zf _ ?_
     simp +decide only [zi, hpin, go_sem, reduceAdd, reduceMul]
def useF (p : ProgramD) (R : List Int) : Nat -> Int := fun m => (cntK p.nodes p.nodes.length m : Int) + 1000 * (R.count (m : Int) : Int)
theorem zmU (p : ProgramD) : (fun m => (cntK p.nodes p.nodes.length m : Int)) = useF p (allR (p.fns.take 0)) := by funext m; simp [useF, allR]
theorem zgy (p : ProgramD) (R : List Int) {k : Int} (h0 : 0 <= k) : (fun m => if m = k.toNat then useF p R k.toNat + 1000 else useF p R m) = useF p (R ++ [k]) := by
 funext m
 unfold useF
 rw [List.count_append]
 by_cases e : m = k.toNat
 · subst e
   have e2 : ((k.toNat : Nat) : Int) = k := by omega
   rw [if_pos rfl, e2]
   simp; omega
 · rw [if_neg e]
   have e2 : (k == (m : Int)) = false := by apply Bool.eq_false_iff.2; intro hh; have := eq_of_beq hh; omega
   simp [List.count_cons, e2]
theorem zeR {p : ProgramD} (hD : Deep p.nodes) (hl : p.nodes.length <= 300) (hf : p.fns.length <= 8) {R : List Int} (hs : R.Sublist (allR p.fns)) (m : Nat) : 0 <= useF p R m /\ useF p R m <= 300 + 16000 := by
 have h1 := zel hD.nodup m p.nodes.length (Nat.le_refl _)
 have h2 : R.count (m : Int) <= R.length := List.count_le_length
 have h3 := hs.length_le
 have h4 := zer p.fns
 unfold useF
 omega
theorem zeA (p : ProgramD) (hf : p.fns.length <= 1048576) (hn : p.nodes.length <= 1048576) (hk : ∀ x ∈ p.nodes, x.kids.length <= 1048576) (hpl : ∀ f ∈ p.fns, f.params.length <= 1048576) : zu Tryz.prog 164 [.ro (zb p)] (fun rs st => rs = [(false, [cB (xG p)])]) := by
 refine zm (fn := Tryz.f164) (c := Tryz.f164.body.getD .skip) (res := [.tm 2]) (n := 108) zf (by kernel_rfl) (by rfl) (by kernel_rfl) (by rfl) (by rfl) (by simp [zp]) (fun uf ub C hpin hpin2 hfull => ?_)
 simp only [Tryz.f164, Option.getD_some]
 refine Tri.step zf ?_
 simp +decide only [zb, za, zi, hpin, go_sem, reduceAdd, reduceMul]
 refine Tri.ent ?_ (Ent.frb hfull 1)
 refine Tri.step zf ?_
 simp +decide only [zb, za, zi, hpin, go_sem, reduceAdd, reduceMul]
 refine zd (xv p.nodes.length 1 300) hpin ?_
 unfold xG
 cases h0 : inI p.nodes.length 1 300 with
 | false => simp +decide only [zi, hpin, go_sem, reduceAdd, reduceMul]
 | true =>
 simp +decide only [zb, za, zi, hpin, go_sem, reduceAdd, reduceMul]
 refine zd (xv p.fns.length 1 8) hpin ?_
 cases h1 : inI p.fns.length 1 8 with
 | false => simp +decide only [zi, hpin, go_sem, reduceAdd, reduceMul]
 | true =>
 have hr0 := zx h0
 have hr1 := zx h1
 obtain ⟨n, hnn⟩ : ∃ n : Nat, p.nodes.length = n + 1 := ⟨p.nodes.length - 1, by omega⟩
 have e9 : (p.nodes.length : Int) - 1 = (n : Int) := by omega
 have w1 : IntKind.i64.wrap ((p.nodes.length : Int) - 1) = (n : Int) := by rw [w64 (by omega) (by omega)]; exact e9
 have hll := yw p.nodes (n + 1)
 have hlt : n < (zC p.nodes (n + 1)).length := by omega
 have hg : (zC p.nodes (n + 1))[n] = zQ p.nodes n := by
   have := YC p.nodes (show n < n + 1 by omega)
   simp only [List.getD, hlt, List.getElem?_eq_getElem, Option.getD_some] at this
   have h9 : inI (n : Int) 0 (p.nodes.length - 1) = true := by simp [inI]; omega
   rw [this]; simp [zQ, h9, dAt]
 have hc : ((n : Int) < ((n + 1 : Nat) : Int)) = True := eq_true (by omega)
 have w2 : IntKind.i64.wrap (((n + 1 : Nat) : Int) - 1) = (n : Int) := by rw [w64 (by omega) (by omega)]; omega
 simp +decide only [zi, hpin, go_sem, reduceAdd, reduceMul]
 refine Tri.step zf ?_
 simp +decide only [w1, za, zi, hpin, go_sem, reduceAdd, reduceMul]
 refine zd (zcn p.nodes n (by omega) hn hk) hpin ?_
 simp +decide only [hll, zi, hpin, go_sem, reduceAdd, reduceMul]
 refine Tri.step zf ?_
 simp +decide only [hll, w2, hc, yd _ _ hlt, hg, Int.natCast_nonneg, zi, hpin, go_sem, reduceAdd, reduceMul]
 rw [e9]
 cases h2 : zQ p.nodes n == 0 with
 | true => simp +decide only [h2, zi, hpin, go_sem, reduceAdd, reduceMul]
 | false =>
 have hD := zjf (nodes := p.nodes) (by rw [e9]; exact h2)
 simp +decide only [h2, zi, hpin, go_sem, reduceAdd, reduceMul]
 refine Tri.step zf ?_
 simp +decide only [za, zi, hpin, go_sem, reduceAdd, reduceMul]
 refine zd (zkj p.nodes hD hn hk) hpin ?_
 rw [zmU p]
 simp +decide only [za, zi, hpin, go_sem, reduceAdd, reduceMul]
 refine Tri.step zf ?_
 simp +decide only [za, zi, hpin, go_sem, reduceAdd, reduceMul]
 refine Tri.loop (ι := Nat) (fun i => i <= p.fns.length /\ zJ (xi p) i = true) (fun i => ⟨108, [(1, .ip (za true p) 0), (2, vB false), (4, .ref 4 [] p.nodes.length), (5, vI i)], [(4, .row 3 (row1 cI (tabI p.nodes.length (useF p (allR (p.fns.take i))))))]⟩) (fun i => p.fns.length - i) 0 ⟨by simp, rfl⟩ ?_ ?_
 · refine Ent.weak ?_ ?_ ?_ ?_ <;> simp +decide [subT, subB, zk, zj, zl, St.get, look, vI, vB, vS, cI, cS, cB, zg, roI, za]
 · rintro i ⟨hi, hB⟩
   refine ze zf _ ?_
   by_cases h' : i < p.fns.length
   · have e : ((i : Int) < (p.fns.length : Int)) = True := by simp [h']
     have hfn := ziU p i h' hf hn hpl
     have hx : (rows (fnC true) p.fns).getD i [] = fnC true p.fns[i] := zh _ _ h'
     have hnext := zhX h'
     have hsub := fun b => zkc h' b
     have hfr : xi p i = (YV p p.fns[i] && xE p.fns p.fns[i].name == (i : Int)) := by unfold xi; rw [yS h']
     simp only [zb] at hfn
     generalize p.fns[i] = f at hfn hx hnext hsub hfr
     rw [<- hfr] at hfn
     simp +decide only [e, Int.natCast_nonneg, za, vB, vI, zi, hpin, go_sem, reduceAdd, reduceMul]
     refine zd hfn hpin ?_
     cases g0 : xi p i with
     | false =>
       have hff : zJ (xi p) p.fns.length = false := zw h' g0
       simp +decide only [hff, zi, hpin, go_sem, reduceAdd, reduceMul]
     | true =>
     have hB2 : zJ (xi p) (i + 1) = true := by rw [zN, hB, g0]; rfl
     rw [g0] at hfr
     have hrt := xT (Bool.and_eq_true_iff.1 hfr.symm).1
     simp +decide only [e, Int.natCast_nonneg, za, vB, vI, zi, hpin, go_sem, reduceAdd, reduceMul]
     refine Tri.sched zf [(0, true), (1, true), (3, true), (7, true), (8, true), (10, true), (2, true), (4, true), (5, true), (6, true), (9, false), (11, false), (12, false), (13, false), (14, false), (15, false), (16, false), (17, false), (18, false)] zV (by kernel_rfl) (fun C2 hC2 => ?_)
     have hp2 := zY hC2 hpin
     have e0 : allR (p.fns.take i) ++ rtsP f 0 = allR (p.fns.take i) := by simp [rtsP]
     have r1 : rtsP f 1 = [f.body] := by simp [rtsP, rts, hrt.1.1]
     obtain ⟨⟨y0, y1⟩, hret⟩ := hrt
     have z0 : (0 <= f.body) = True := eq_true y0
     have z1 : (f.body < (p.nodes.length : Int)) = True := eq_true (by omega)
     have hs1 := hsub 1
     rw [r1] at hs1
     have hrg := zeR hD (by omega) (by omega) ((List.sublist_append_left (allR (p.fns.take i)) _).trans hs1) f.body.toNat
     have hset := zaO (f := useF p (allR (p.fns.take i))) y1 (useF p (allR (p.fns.take i)) f.body.toNat + 1000)
     have hgq := xk (f := useF p (allR (p.fns.take i))) y1
     have hgd := zjr (f := useF p (allR (p.fns.take i))) y1
     rw [zgy p _ y0, <- r1] at hset
     have wv : IntKind.i64.wrap (useF p (allR (p.fns.take i)) f.body.toNat + 1000) = useF p (allR (p.fns.take i)) f.body.toNat + 1000 := w64 (by omega) (by omega)
     simp only [cI] at hset hgq hgd
     simp +decide only [e, h', hx, fnC, z0, z1, y1, wv, hgq, hgd, hset, Int.natCast_nonneg, za, vB, vI, zi, hp2, go_sem, reduceAdd, reduceMul]
     rcases hret with hneg | ⟨x0, x1⟩
     · have r2 : rtsP f 2 = rtsP f 1 := zgX f (b := 1) (by simp [rts]) hneg
       have z5 : (0 <= f.ret) = False := eq_false (by omega)
       rw [r2] at hnext
       simp +decide only [z5, zi, hpin, go_sem, reduceAdd, reduceMul]
       refine ⟨i + 1, ⟨h', hB2⟩, by omega, Ent.weak ?_ ?_ ?_ ?_⟩
       all_goals simp +decide [subT, subB, zk, zj, zl, St.get, look, vI, vB, vS, cI, cS, cB, zg, roI, za, hnext, hgq, hset, w64s (n := p.fns.length) h' (by omega)]
     · have r2 : rtsP f 2 = rtsP f 1 ++ [f.ret] := zgW f (b := 1) (by simp [rts]) x0
       have z5 : (0 <= f.ret) = True := eq_true x0
       have z6 : (f.ret < (p.nodes.length : Int)) = True := eq_true (by omega)
       rw [r2, <- List.append_assoc] at hnext
       have hs2 := hsub 1
       have hset2 := zaO (f := useF p (allR (p.fns.take i) ++ rtsP f 1)) x1 (useF p (allR (p.fns.take i) ++ rtsP f 1) f.ret.toNat + 1000)
       have hgq2 := xk (f := useF p (allR (p.fns.take i) ++ rtsP f 1)) x1
       have hgd2 := zjr (f := useF p (allR (p.fns.take i) ++ rtsP f 1)) x1
       rw [zgy p _ x0, <- hnext] at hset2
       have hrg2 := zeR hD (by omega) (by omega) hs2 f.ret.toNat
       have wv2 : IntKind.i64.wrap (useF p (allR (p.fns.take i) ++ rtsP f 1) f.ret.toNat + 1000) = useF p (allR (p.fns.take i) ++ rtsP f 1) f.ret.toNat + 1000 := w64 (by omega) (by omega)
       simp only [cI] at hset2 hgq2 hgd2
       simp +decide only [z5, zi, hpin, go_sem, reduceAdd, reduceMul]
       refine Tri.sched zf [(0, true), (1, true), (3, true), (7, true), (8, true), (10, true), (2, true), (4, true), (5, true), (6, true), (9, false), (11, false), (12, false), (13, false), (14, false), (15, false), (16, false), (17, false), (18, false)] zV (by kernel_rfl) (fun C3 hC3 => ?_)
       have hp3 := zY hC3 hpin
       simp +decide only [e, h', hx, fnC, z5, z6, x1, wv2, hgq2, hgd2, hset2, Int.natCast_nonneg, za, vB, vI, zi, hp3, hpin, go_sem, reduceAdd, reduceMul]
       refine ⟨i + 1, ⟨h', hB2⟩, by omega, Ent.weak ?_ ?_ ?_ ?_⟩
       all_goals simp +decide [subT, subB, zk, zj, zl, St.get, look, vI, vB, vS, cI, cS, cB, zg, roI, za, hgq2, hset2, w64s (n := p.fns.length) h' (by omega)]
   · have hil : i = p.fns.length := by omega
     subst hil
     have e : ((p.fns.length : Int) < (p.fns.length : Int)) = False := by simp
     simp +decide only [e, za, vB, vI, zi, hpin, go_sem, reduceAdd, reduceMul]
     rw [hB]
     refine Tri.step zf ?_
     simp +decide only [za, zi, hpin, go_sem, reduceAdd, reduceMul]
     refine Tri.loop (ι := Nat) (fun m => m <= p.nodes.length /\ zJ (zdC p) m = true) (fun m => ⟨108, [(2, vB false), (4, .ref 4 [] p.nodes.length), (6, vI m)], [(4, .row 3 (row1 cI (tabI p.nodes.length (useF p (allR p.fns)))))]⟩) (fun m => p.nodes.length - m) 0 ⟨by simp, rfl⟩ ?_ ?_
     · refine Ent.weak ?_ ?_ ?_ ?_ <;> simp +decide [subT, subB, zk, zj, zl, St.get, look, vI, vB, vS, cI, cS, cB, zg, roI, za]
     · rintro m ⟨hm, hq⟩
       refine ze zf _ ?_
       by_cases h' : m < p.nodes.length
       · have e : ((m : Int) < (p.nodes.length : Int)) = True := by simp [h']
         have hgq := xk (f := useF p (allR p.fns)) h'
         have hl : (useF p (allR p.fns) m == 1 || useF p (allR p.fns) m == 1000) = zdC p m := rfl
         simp only [cI] at hgq
         generalize useF p (allR p.fns) m = z at hgq hl
         simp +decide only [e, h', hgq, Int.natCast_nonneg, bne, vB, vI, zi, hpin, go_sem, reduceAdd, reduceMul]
         cases z1 : z == 1 with
         | true =>
           rw [z1, Bool.true_or] at hl
           simp +decide only [z1, zi, hpin, go_sem, reduceAdd, reduceMul]
           refine ⟨m + 1, ⟨h', by rw [zN, hq, <- hl]; rfl⟩, by omega, Ent.weak ?_ ?_ ?_ ?_⟩
           all_goals simp +decide [subT, subB, zk, zj, zl, St.get, look, vI, vB, vS, cI, cS, cB, zg, roI, w64s (n := p.nodes.length) h' (by omega)]
         | false =>
           rw [z1, Bool.false_or] at hl
           cases z2 : z == 1000 with
           | true =>
             rw [z2] at hl
             simp +decide only [z1, z2, zi, hpin, go_sem, reduceAdd, reduceMul]
             refine ⟨m + 1, ⟨h', by rw [zN, hq, <- hl]; rfl⟩, by omega, Ent.weak ?_ ?_ ?_ ?_⟩
             all_goals simp +decide [subT, subB, zk, zj, zl, St.get, look, vI, vB, vS, cI, cS, cB, zg, roI, w64s (n := p.nodes.length) h' (by omega)]
           | false =>
             rw [z2] at hl
             have hf : zJ (zdC p) p.nodes.length = false := zw h' hl.symm
             simp +decide only [z1, z2, hf, zi, hpin, go_sem, reduceAdd, reduceMul]
       · have hil : m = p.nodes.length := by omega
         subst hil
         have e : ((p.nodes.length : Int) < (p.nodes.length : Int)) = False := by simp
         rw [hq]
         simp +decide only [e, vB, vI, zi, hpin, go_sem, reduceAdd, reduceMul]
         refine ze zf _ ?_
         simp +decide only [zi, hpin, go_sem, reduceAdd, reduceMul]
def zaf (x : ParamD) : VarD := ⟨x.name, x.ty, -1⟩
def letV (nodes : List NodeD) (k : Int) : List VarD := if (nAt nodes k).kind == 13 then [⟨(nAt nodes k).name, 0, k⟩] else []
def ya (l : List ParamD) : List VarD := l.map zaf
def yY (nodes : List NodeD) (l : List Int) : List VarD := l.flatMap (letV nodes)
noncomputable def xq (p : ProgramD) (fn : Int) : List VarD := if inI fn 0 (p.fns.length - 1) then ya (fAt p.fns fn).params ++ yY p.nodes (zI p.nodes (fAt p.fns fn).body) else []
theorem zay (nodes : List NodeD) : ∀ l : List Int, (yY nodes l).length <= l.length
 | [] => by simp [yY]
 | k :: r => by
   have h1 := zay nodes r
   have h2 : (letV nodes k).length <= 1 := by unfold letV; split <;> simp
   unfold yY at h1 |-
   rw [List.flatMap_cons, List.length_append, List.length_cons]; omega
theorem zmk (nodes : List NodeD) {l : List Int} {i : Nat} (h : i < l.length) : yY nodes (l.take (i + 1)) = yY nodes (l.take i) ++ letV nodes l[i] := by
 unfold yY
 rw [List.take_succ_eq_append_getElem h, List.flatMap_append]; simp
def accV (nodes : List NodeD) (M : List VarD) (l : List Int) : List VarD := M ++ yY nodes l
theorem zhY (nodes : List NodeD) (M : List VarD) {l : List Int} {i : Nat} (h : i < l.length) : accV nodes M (l.take (i + 1)) = accV nodes M (l.take i) ++ letV nodes l[i] := by
 unfold accV; rw [zmk nodes h, List.append_assoc]
theorem zes (nodes : List NodeD) (M : List VarD) (l : List Int) : (accV nodes M l).length <= M.length + l.length := by
 have := zay nodes l
 unfold accV; rw [List.length_append]; omega
theorem zdu {l : List ParamD} {i : Nat} (h : i < l.length) : ya (l.take (i + 1)) = ya (l.take i) ++ [zaf l[i]] := by
 unfold ya
 rw [List.take_succ_eq_append_getElem h, List.map_append]; rfl
theorem ZS (l : List ParamD) : (ya l).length = l.length := by simp [ya]
theorem zcC (l : List VarD) (x : VarD) : rows (varC false) l ++ [[cS x.name, cI x.ty, cI x.node]] = rows (varC false) (l ++ [x]) := Xp _ l x
theorem zcO (p : ProgramD) (fn : Int) (hf : p.fns.length <= 1048576) (hn : p.nodes.length <= 1048576) (hk : ∀ x ∈ p.nodes, x.kids.length <= 1048576) (hpl : ∀ f ∈ p.fns, f.params.length <= 1048576) : zu Tryz.prog 142 [.ro (zb p), .ro (.sc (.int .i64 fn))] (fun rs st => rs = [(false, [.row false 96 (rows (varC false) (xq p fn))])]) := by
 refine zm (fn := Tryz.f142) (c := Tryz.f142.body.getD .skip) (res := [.tm 4]) (n := 68) zf (by kernel_rfl) (by rfl) (by kernel_rfl) (by rfl) (by rfl) (by simp [zp]) (fun uf ub C hpin hpin2 hfull => ?_)
 simp only [Tryz.f142, Option.getD_some]
 have w1 : IntKind.i64.wrap ((p.fns.length : Int) - 1) = (p.fns.length : Int) - 1 := w64 (by omega) (by omega)
 have e0 : rows (varC false) ([] : List VarD) = [] := rfl
 refine Tri.step zf ?_
 simp +decide only [zb, za, hpin, go_sem, reduceAdd, reduceMul]
 refine Tri.ent ?_ (Ent.frb hfull 2)
 refine Tri.step zf ?_
 simp +decide only [w1, zb, za, hpin, go_sem, reduceAdd, reduceMul]
 refine zd (in' fn 0 (p.fns.length - 1)) hpin ?_
 unfold xq
 cases h0 : inI fn 0 (p.fns.length - 1) with
 | false => simp +decide only [e0, zb, za, hpin, go_sem, reduceAdd, reduceMul]
 | true =>
 have hr := zx h0
 obtain ⟨f, rfl⟩ : ∃ f : Nat, fn = f := ⟨fn.toNat, by omega⟩
 have hfl : f < p.fns.length := by omega
 have c1 : ((f : Int) < (p.fns.length : Int)) = True := eq_true (by omega)
 have hx : (rows (fnC true) p.fns).getD f [] = fnC true p.fns[f] := zh _ _ hfl
 have hplx := hpl p.fns[f] (List.getElem_mem hfl)
 rw [yS hfl]
 generalize p.fns[f] = g at hx hplx
 simp +decide only [zb, za, hpin, go_sem, reduceAdd, reduceMul]
 refine Tri.step zf ?_
 simp +decide only [zb, za, hpin, go_sem, reduceAdd, reduceMul]
 refine Tri.step zf ?_
 simp +decide only [c1, hx, fnC, Int.natCast_nonneg, zb, za, hpin, go_sem, reduceAdd, reduceMul]
 refine Tri.loop (ι := Nat) (fun i => i <= g.params.length) (fun i => ⟨68, [(1, vI f), (2, .ip (za true p) 0), (5, .ref 5 [] (ya (g.params.take i)).length), (23, .imm 107 (rows (zr true) g.params)), (24, vI g.params.length), (25, vI i)], [(5, .row 96 (rows (varC false) (ya (g.params.take i))))]⟩) (fun i => g.params.length - i) 0 (by simp) ?_ ?_
 · refine Ent.weak ?_ ?_ ?_ ?_ <;> simp +decide [subT, subB, zk, zj, zl, St.get, look, vI, vB, vS, cI, cS, cB, zg, roI, za, rows, ya]
 · rintro i hi
   refine ze zf _ ?_
   by_cases h' : i < g.params.length
   · have e : ((i : Int) < (g.params.length : Int)) = True := by simp [h']
     have hnx := zdu h'
     have hlen : (ya (g.params.take i)).length <= i := by rw [ZS]; simp; omega
     have htk := yq (varC false) (ya (g.params.take i))
     have hsn := zcC (ya (g.params.take i)) (zaf g.params[i])
     have hy : (rows (zr true) g.params).getD i [] = zr true g.params[i] := zh _ _ h'
     have hl2 : (ya (g.params.take (i + 1))).length = (ya (g.params.take i)).length + 1 := by rw [hnx]; simp
     rw [<- hnx] at hsn
     simp only [zaf] at hsn
     generalize ya (g.params.take i) = M at hlen htk hsn hl2
     have hb1 : M.length + 1 <= 140737488355328 := by omega
     have hb2 : (M.length + 1) * 32 <= 140737488355328 := by omega
     simp only [cI, cS] at hsn
     simp +decide only [e, hy, zr, hb1, hb2, htk, hsn, Int.natCast_nonneg, vB, vI, zb, za, hpin, go_sem, reduceAdd, reduceMul]
     refine ⟨i + 1, h', by omega, Ent.weak ?_ ?_ ?_ ?_⟩
     all_goals simp +decide [subT, subB, zk, zj, zl, St.get, look, vI, vB, vS, cI, cS, cB, zg, roI, za, hl2, w64s (n := g.params.length) h' (by omega)]
   · have hil : i = g.params.length := by omega
     subst hil
     have e : ((g.params.length : Int) < (g.params.length : Int)) = False := by simp
     have hM : (ya g.params).length <= 1048576 := by rw [ZS]; omega
     simp +decide only [e, vB, vI, zb, za, hpin, go_sem, reduceAdd, reduceMul]
     generalize ya g.params = M at hM |-
     refine Tri.step zf ?_
     refine Tri.sched zf [(1, true), (3, true), (9, true), (0, true), (2, false), (4, false), (5, false), (6, false), (7, false), (8, false)] zV (by kernel_rfl) (fun C2 hC2 => ?_)
     have hp2 := zY hC2 hpin
     simp +decide only [c1, hx, fnC, Int.natCast_nonneg, za, zb, za, hp2, go_sem, reduceAdd, reduceMul]
     refine zd (Xl p g.body hn hk) hp2 ?_
     simp +decide only [za, zb, za, hp2, go_sem, reduceAdd, reduceMul]
     have hul := yu p.nodes g.body
     have hum : ∀ b (hb : b < (zI p.nodes g.body).length), 0 <= (zI p.nodes g.body)[b] /\ (zI p.nodes g.body)[b].toNat < p.nodes.length := fun b hb => by
       have := yF (List.getElem_mem hb)
       exact ⟨this.1, this.2.1⟩
     generalize zI p.nodes g.body = U at hul hum |-
     refine Tri.loop (ι := Nat) (fun i => i <= U.length) (fun i => ⟨68, [(2, .ip (za true p) 0), (5, .ref 5 [] (accV p.nodes M (U.take i)).length), (45, .ref 3045 [] U.length), (46, vI U.length), (47, vI i)], [(3045, .row 3 (row1 cI U)), (5, .row 96 (rows (varC false) (accV p.nodes M (U.take i))))]⟩) (fun i => U.length - i) 0 (by simp) ?_ ?_
     · have e1 : accV p.nodes M [] = M := by simp [accV, yY]
       refine Ent.weak ?_ ?_ ?_ ?_ <;> simp +decide [subT, subB, zk, zj, zl, St.get, look, vI, vB, vS, cI, cS, cB, zg, roI, za, e1]
     · rintro i hi
       refine ze zf _ ?_
       by_cases h' : i < U.length
       · have e : ((i : Int) < (U.length : Int)) = True := by simp [h']
         obtain ⟨g0, g1⟩ := hum i h'
         have z0 : (0 <= U[i]) = True := eq_true g0
         have z1 : (U[i] < (p.nodes.length : Int)) = True := eq_true (by omega)
         have hlen : (accV p.nodes M (U.take i)).length <= 1048576 + i := by
           have := zes p.nodes M (U.take i)
           rw [List.length_take] at this
           omega
         have hat : nAt p.nodes U[i] = p.nodes[U[i].toNat] := xz g1
         have hy : (rows (zg true) p.nodes).getD U[i].toNat [] = zg true p.nodes[U[i].toNat] := zh _ _ g1
         have hnx2 := zhY p.nodes M h'
         unfold letV at hnx2
         rw [hat] at hnx2
         generalize p.nodes[U[i].toNat] = x at hy hnx2
         generalize accV p.nodes M (U.take i) = M1 at hlen hnx2
         have htk := yq (varC false) M1
         have hsn := zcC M1 ⟨x.name, 0, U[i]⟩
         have hb1 : M1.length + 1 <= 140737488355328 := by omega
         have hb2 : (M1.length + 1) * 32 <= 140737488355328 := by omega
         simp only [cI, cS] at hsn
         simp +decide only [e, z0, z1, h', yd _ _ h', hy, zg, Int.natCast_nonneg, za, vB, vI, zb, za, hpin, go_sem, reduceAdd, reduceMul]
         cases hkk : x.kind == 13 with
         | false =>
           rw [hkk, if_neg (by decide), List.append_nil] at hnx2
           simp +decide only [hkk, zb, za, hpin, go_sem, reduceAdd, reduceMul]
           refine ⟨i + 1, h', by omega, Ent.weak ?_ ?_ ?_ ?_⟩
           all_goals simp +decide only [hnx2]
           all_goals simp +decide [subT, subB, zk, zj, zl, St.get, look, vI, vB, vS, cI, cS, cB, zg, roI, za, w64s (n := U.length) h' (by omega)]
         | true =>
           rw [hkk, if_pos rfl] at hnx2
           simp +decide only [hkk, hb1, hb2, htk, hsn, zb, za, hpin, go_sem, reduceAdd, reduceMul]
           refine ⟨i + 1, h', by omega, Ent.weak ?_ ?_ ?_ ?_⟩
           all_goals simp +decide only [hnx2]
           all_goals simp +decide [subT, subB, zk, zj, zl, St.get, look, vI, vB, vS, cI, cS, cB, zg, roI, za, w64s (n := U.length) h' (by omega)]
       · have hil : i = U.length := by omega
         subst hil
         have e : ((U.length : Int) < (U.length : Int)) = False := by simp
         have e5 : accV p.nodes M U = M ++ yY p.nodes U := rfl
         simp +decide only [e, vB, vI, zb, za, hpin, go_sem, reduceAdd, reduceMul]
         refine ze zf _ ?_
         simp +decide only [e5, zb, za, hpin, go_sem, reduceAdd, reduceMul]
theorem zcN (p : ProgramD) (fn : Int) (hf : p.fns.length <= 1048576) (hn : p.nodes.length <= 1048576) (hk : ∀ x ∈ p.nodes, x.kids.length <= 1048576) (hpl : ∀ f ∈ p.fns, f.params.length <= 1048576) : zu Tryz.prog 165 [.ro (zb p), .ro (.sc (.int .i64 fn))] (fun rs st => rs = [(false, [.row false 96 (rows (varC false) (xq p fn))])]) := by
 refine zm (fn := Tryz.f165) (c := Tryz.f165.body.getD .skip) (res := [.tm 4]) (n := 85) zf (by kernel_rfl) (by rfl) (by kernel_rfl) (by rfl) (by rfl) (by simp [zp]) (fun uf ub C hpin hpin2 hfull => ?_)
 simp only [Tryz.f165, Option.getD_some]
 have w1 : IntKind.i64.wrap ((p.fns.length : Int) - 1) = (p.fns.length : Int) - 1 := w64 (by omega) (by omega)
 have e0 : rows (varC false) ([] : List VarD) = [] := rfl
 refine Tri.step zf ?_
 simp +decide only [zb, za, hpin, go_sem, reduceAdd, reduceMul]
 refine Tri.ent ?_ (Ent.frb hfull 2)
 refine Tri.step zf ?_
 simp +decide only [zb, za, hpin, go_sem, reduceAdd, reduceMul]
 refine Tri.step zf ?_
 simp +decide only [w1, zb, za, hpin, go_sem, reduceAdd, reduceMul]
 refine zd (xv fn 0 (p.fns.length - 1)) hpin ?_
 unfold xq
 cases h0 : inI fn 0 (p.fns.length - 1) with
 | false => simp +decide only [e0, zb, za, hpin, go_sem, reduceAdd, reduceMul]
 | true =>
 have hr := zx h0
 obtain ⟨f, rfl⟩ : ∃ f : Nat, fn = f := ⟨fn.toNat, by omega⟩
 have hfl : f < p.fns.length := by omega
 have c1 : ((f : Int) < (p.fns.length : Int)) = True := eq_true (by omega)
 have hx : (rows (fnC true) p.fns).getD f [] = fnC true p.fns[f] := zh _ _ hfl
 have hplx := hpl p.fns[f] (List.getElem_mem hfl)
 rw [yS hfl]
 generalize p.fns[f] = g at hx hplx
 simp +decide only [zb, za, hpin, go_sem, reduceAdd, reduceMul]
 refine Tri.step zf ?_
 simp +decide only [c1, hx, fnC, Int.natCast_nonneg, zb, za, hpin, go_sem, reduceAdd, reduceMul]
 refine Tri.ent ?_ (Ent.frb hfull 6)
 refine Tri.step zf ?_
 simp +decide only [zb, za, hpin, go_sem, reduceAdd, reduceMul]
 refine Tri.loop (ι := Nat) (fun i => i <= g.params.length) (fun i => ⟨85, [(2, .ip (za true p) 0), (5, .ref 5 [] (ya (g.params.take i)).length), (6, .ip (fnC true g) 0), (7, vI i)], [(5, .row 96 (rows (varC false) (ya (g.params.take i))))]⟩) (fun i => g.params.length - i) 0 (by simp) ?_ ?_
 · refine Ent.weak ?_ ?_ ?_ ?_ <;> simp +decide [subT, subB, zk, zj, zl, St.get, look, vI, vB, vS, cI, cS, cB, zg, roI, za, fnC, rows, ya]
 · rintro i hi
   refine ze zf _ ?_
   by_cases h' : i < g.params.length
   · have e : ((i : Int) < (g.params.length : Int)) = True := by simp [h']
     have hnx := zdu h'
     have hlen : (ya (g.params.take i)).length <= i := by rw [ZS]; simp; omega
     have htk := yq (varC false) (ya (g.params.take i))
     have hsn := zcC (ya (g.params.take i)) (zaf g.params[i])
     have hy : (rows (zr true) g.params).getD i [] = zr true g.params[i] := zh _ _ h'
     have hl2 : (ya (g.params.take (i + 1))).length = (ya (g.params.take i)).length + 1 := by rw [hnx]; simp
     rw [<- hnx] at hsn
     simp only [zaf] at hsn
     generalize ya (g.params.take i) = M at hlen htk hsn hl2
     have hb1 : M.length + 1 <= 140737488355328 := by omega
     have hb2 : (M.length + 1) * 32 <= 140737488355328 := by omega
     simp only [cI, cS] at hsn
     simp +decide only [e, fnC, za, vB, vI, zb, za, hpin, go_sem, reduceAdd, reduceMul]
     refine Tri.sched zf [(0, true), (1, true), (3, true), (7, true), (9, true), (2, true), (4, true), (5, true), (6, true), (8, false), (10, false), (11, false), (12, false), (13, false), (14, false), (15, false), (16, false)] zV (by kernel_rfl) (fun C2 hC2 => ?_)
     have hp2 := zY hC2 hpin
     simp +decide only [e, hy, zr, hb1, hb2, htk, hsn, Int.natCast_nonneg, vB, vI, zb, za, hp2, hpin, go_sem, reduceAdd, reduceMul]
     refine ⟨i + 1, h', by omega, Ent.weak ?_ ?_ ?_ ?_⟩
     all_goals simp +decide [subT, subB, zk, zj, zl, St.get, look, vI, vB, vS, cI, cS, cB, zg, roI, za, fnC, hl2, w64s (n := g.params.length) h' (by omega)]
   · have hil : i = g.params.length := by omega
     subst hil
     have e : ((g.params.length : Int) < (g.params.length : Int)) = False := by simp
     have hM : (ya g.params).length <= 1048576 := by rw [ZS]; omega
     simp +decide only [e, fnC, za, vB, vI, zb, za, hpin, go_sem, reduceAdd, reduceMul]
     generalize ya g.params = M at hM |-
     refine Tri.step zf ?_
     simp +decide only [za, zb, za, hpin, go_sem, reduceAdd, reduceMul]
     refine zd (Yf p g.body hn hk) hpin ?_
     simp +decide only [za, zb, za, hpin, go_sem, reduceAdd, reduceMul]
     refine Tri.ent ?_ (Ent.frz hfull 8)
     have hul := yu p.nodes g.body
     have hum : ∀ b (hb : b < (zI p.nodes g.body).length), 0 <= (zI p.nodes g.body)[b] /\ (zI p.nodes g.body)[b].toNat < p.nodes.length := fun b hb => by
       have := yF (List.getElem_mem hb)
       exact ⟨this.1, this.2.1⟩
     generalize zI p.nodes g.body = U at hul hum |-
     refine Tri.step zf ?_
     simp +decide only [za, zb, za, hpin, go_sem, reduceAdd, reduceMul]
     refine Tri.loop (ι := Nat) (fun i => i <= U.length) (fun i => ⟨85, [(2, .ip (za true p) 0), (5, .ref 5 [] (accV p.nodes M (U.take i)).length), (8, roI U), (9, vI i)], [(5, .row 96 (rows (varC false) (accV p.nodes M (U.take i))))]⟩) (fun i => U.length - i) 0 (by simp) ?_ ?_
     · have e1 : accV p.nodes M [] = M := by simp [accV, yY]
       refine Ent.weak ?_ ?_ ?_ ?_ <;> simp +decide [subT, subB, zk, zj, zl, St.get, look, vI, vB, vS, cI, cS, cB, zg, roI, za, e1]
     · rintro i hi
       refine ze zf _ ?_
       by_cases h' : i < U.length
       · have e : ((i : Int) < (U.length : Int)) = True := by simp [h']
         obtain ⟨g0, g1⟩ := hum i h'
         have z0 : (0 <= U[i]) = True := eq_true g0
         have z1 : (U[i] < (p.nodes.length : Int)) = True := eq_true (by omega)
         have hlen : (accV p.nodes M (U.take i)).length <= 1048576 + i := by
           have := zes p.nodes M (U.take i)
           rw [List.length_take] at this
           omega
         have hat : nAt p.nodes U[i] = p.nodes[U[i].toNat] := xz g1
         have hy : (rows (zg true) p.nodes).getD U[i].toNat [] = zg true p.nodes[U[i].toNat] := zh _ _ g1
         have hnx2 := zhY p.nodes M h'
         unfold letV at hnx2
         rw [hat] at hnx2
         generalize p.nodes[U[i].toNat] = x at hy hnx2
         generalize accV p.nodes M (U.take i) = M1 at hlen hnx2
         have htk := yq (varC false) M1
         have hsn := zcC M1 ⟨x.name, 0, U[i]⟩
         have hb1 : M1.length + 1 <= 140737488355328 := by omega
         have hb2 : (M1.length + 1) * 32 <= 140737488355328 := by omega
         simp only [cI, cS] at hsn
         simp +decide only [e, za, vB, vI, zb, za, hpin, go_sem, reduceAdd, reduceMul]
         refine Tri.sched zf [(0, true), (2, true), (3, true), (4, true), (1, true), (5, false), (6, false), (7, false), (8, false), (9, false)] zV (by kernel_rfl) (fun C2 hC2 => ?_)
         have hp2 := zY hC2 hpin
         simp +decide only [e, z0, z1, h', zq _ _ h', hy, zg, Int.natCast_nonneg, za, vB, vI, zb, za, hp2, hpin, go_sem, reduceAdd, reduceMul]
         cases hkk : x.kind == 13 with
         | false =>
           rw [hkk, if_neg (by decide), List.append_nil] at hnx2
           simp +decide only [hkk, zb, za, hpin, go_sem, reduceAdd, reduceMul]
           refine ⟨i + 1, h', by omega, Ent.weak ?_ ?_ ?_ ?_⟩
           all_goals simp +decide only [hnx2]
           all_goals simp +decide [subT, subB, zk, zj, zl, St.get, look, vI, vB, vS, cI, cS, cB, zg, roI, za, w64s (n := U.length) h' (by omega)]
         | true =>
           rw [hkk, if_pos rfl] at hnx2
           simp +decide only [hkk, zb, za, hpin, go_sem, reduceAdd, reduceMul]
           refine Tri.sched zf [(0, true), (1, true), (3, true), (4, true), (5, true), (10, true), (11, true), (12, true), (2, true), (6, true), (7, true), (8, true), (9, true), (13, false), (14, false), (15, false), (16, false), (17, false)] zV (by kernel_rfl) (fun C3 hC3 => ?_)
           have hp3 := zY hC3 hpin
           simp +decide only [e, z0, z1, h', zq _ _ h', hy, zg, hkk, hb1, hb2, htk, hsn, Int.natCast_nonneg, za, vB, vI, zb, za, hp3, hpin, go_sem, reduceAdd, reduceMul]
           refine ⟨i + 1, h', by omega, Ent.weak ?_ ?_ ?_ ?_⟩
           all_goals simp +decide only [hnx2]
           all_goals simp +decide [subT, subB, zk, zj, zl, St.get, look, vI, vB, vS, cI, cS, cB, zg, roI, za, w64s (n := U.length) h' (by omega)]
       · have hil : i = U.length := by omega
         subst hil
         have e : ((U.length : Int) < (U.length : Int)) = False := by simp
         have e5 : accV p.nodes M U = M ++ yY p.nodes U := rfl
         simp +decide only [e, za, vB, vI, zb, za, hpin, go_sem, reduceAdd, reduceMul]
         refine ze zf _ ?_
         simp +decide only [e5, zb, za, hpin, go_sem, reduceAdd, reduceMul]
def Xg (s : ByteArray) : List VarD -> Nat -> Int
 | [], _ => -1
 | v :: r, i => if v.name = s then (i : Int) else Xg s r (i + 1)
def yp (l : List VarD) (s : ByteArray) : Int := Xg s l 0
theorem zaF (s : ByteArray) : ∀ (l : List VarD) (i : Nat), Xg s l i = -1 \/ ((i : Int) <= Xg s l i /\ Xg s l i < (i + l.length : Nat))
 | [], i => Or.inl rfl
 | v :: r, i => by
   unfold Xg
   by_cases h : v.name = s
   · rw [if_pos h]; right; simp; omega
   · rw [if_neg h]
     rcases zaF s r (i + 1) with h1 | h1
     · exact Or.inl h1
     · right; simp only [List.length_cons]; omega
theorem Xk (l : List VarD) (s : ByteArray) (hl : l.length <= 4194304) : zu Tryz.prog 65 [.ro (.imm 96 (rows (varC true) l)), .ro (.sc (.string s))] (fun rs st => rs = [(false, [cI (yp l s)])]) := by
 refine zm (fn := Tryz.f65) (c := Tryz.f65.body.getD .skip) (res := [.tm 4]) (n := 20) zf (by kernel_rfl) (by rfl) (by kernel_rfl) (by rfl) (by rfl) (by simp [zp]) (fun uf ub C hpin hpin2 hfull => ?_)
 simp only [Tryz.f65, Option.getD_some]
 refine Tri.step zf ?_
 simp +decide only [zb, za, hpin, go_sem, reduceAdd, reduceMul]
 refine Tri.step zf ?_
 simp +decide only [zb, za, hpin, go_sem, reduceAdd, reduceMul]
 refine Tri.loop (ι := Nat) (fun i => i <= l.length /\ yp l s = Xg s (l.drop i) i) (fun i => ⟨20, [(1, vS s), (7, .imm 96 (rows (varC true) l)), (8, vI l.length), (9, vI i)], []⟩) (fun i => l.length - i) 0 ⟨by simp, rfl⟩ ?_ ?_
 · refine Ent.weak ?_ ?_ ?_ ?_ <;> simp +decide [subT, subB, zk, zj, zl, St.get, look, vI, vB, vS, cI, cS, cB, zg, roI]
 · rintro i ⟨hi, hq⟩
   refine ze zf _ ?_
   by_cases h' : i < l.length
   · have e : ((i : Int) < (l.length : Int)) = True := by simp [h']
     rw [List.drop_eq_getElem_cons h', Xg] at hq
     simp +decide only [e, h', zh _ _ h', varC, Int.natCast_nonneg, vB, vI, vS, zb, za, hpin, go_sem, reduceAdd, reduceMul]
     by_cases hs : l[i].name = s
     · have h1 : decide (l[i].name = s) = true := decide_eq_true hs
       rw [if_pos hs] at hq
       simp +decide only [h1, hq, zb, za, hpin, go_sem, reduceAdd, reduceMul]
     · have h1 : decide (l[i].name = s) = false := decide_eq_false hs
       rw [if_neg hs] at hq
       simp +decide only [h1, zb, za, hpin, go_sem, reduceAdd, reduceMul]
       refine ⟨i + 1, ⟨h', hq⟩, by omega, Ent.weak ?_ ?_ ?_ ?_⟩
       all_goals simp +decide [subT, subB, zk, zj, zl, St.get, look, vI, vB, vS, cI, cS, cB, zg, roI, w64s (n := l.length) h' (by omega)]
   · have hil : i = l.length := by omega
     subst hil
     have e : ((l.length : Int) < (l.length : Int)) = False := by simp
     rw [List.drop_length] at hq
     have hq2 : yp l s = -1 := hq
     simp +decide only [e, hq2, vB, vI, zb, za, hpin, go_sem, reduceAdd, reduceMul]
     refine ze zf _ ?_
     simp +decide only [hq2, zb, za, hpin, go_sem, reduceAdd, reduceMul]
theorem Xj (l : List VarD) (s : ByteArray) (hl : l.length <= 4194304) : zu Tryz.prog 56 [.ro (.imm 96 (rows (varC true) l)), .ro (.sc (.string s))] (fun rs st => rs = [(false, [cI (yp l s)])]) := by
 refine zm (fn := Tryz.f56) (c := Tryz.f56.body.getD .skip) (res := [.tm 4]) (n := 20) zf (by kernel_rfl) (by rfl) (by kernel_rfl) (by rfl) (by rfl) (by simp [zp]) (fun uf ub C hpin hpin2 hfull => ?_)
 simp only [Tryz.f56, Option.getD_some]
 refine Tri.step zf ?_
 simp +decide only [zb, za, hpin, go_sem, reduceAdd, reduceMul]
 refine Tri.step zf ?_
 simp +decide only [zb, za, hpin, go_sem, reduceAdd, reduceMul]
 refine Tri.loop (ι := Nat) (fun i => i <= l.length /\ yp l s = Xg s (l.drop i) i) (fun i => ⟨20, [(0, .imm 96 (rows (varC true) l)), (1, vS s), (5, vI i)], []⟩) (fun i => l.length - i) 0 ⟨by simp, rfl⟩ ?_ ?_
 · refine Ent.weak ?_ ?_ ?_ ?_ <;> simp +decide [subT, subB, zk, zj, zl, St.get, look, vI, vB, vS, cI, cS, cB, zg, roI]
 · rintro i ⟨hi, hq⟩
   refine ze zf _ ?_
   by_cases h' : i < l.length
   · have e : ((i : Int) < (l.length : Int)) = True := by simp [h']
     rw [List.drop_eq_getElem_cons h', Xg] at hq
     simp +decide only [e, h', zh _ _ h', varC, Int.natCast_nonneg, vB, vI, vS, zb, za, hpin, go_sem, reduceAdd, reduceMul]
     by_cases hs : l[i].name = s
     · have h1 : decide (l[i].name = s) = true := decide_eq_true hs
       rw [if_pos hs] at hq
       simp +decide only [h1, hq, zb, za, hpin, go_sem, reduceAdd, reduceMul]
     · have h1 : decide (l[i].name = s) = false := decide_eq_false hs
       rw [if_neg hs] at hq
       simp +decide only [h1, zb, za, hpin, go_sem, reduceAdd, reduceMul]
       refine ⟨i + 1, ⟨h', hq⟩, by omega, Ent.weak ?_ ?_ ?_ ?_⟩
       all_goals simp +decide [subT, subB, zk, zj, zl, St.get, look, vI, vB, vS, cI, cS, cB, zg, roI, w64s (n := l.length) h' (by omega)]
   · have hil : i = l.length := by omega
     subst hil
     have e : ((l.length : Int) < (l.length : Int)) = False := by simp
     rw [List.drop_length] at hq
     have hq2 : yp l s = -1 := hq
     simp +decide only [e, hq2, vB, vI, zb, za, hpin, go_sem, reduceAdd, reduceMul]
     refine ze zf _ ?_
     simp +decide only [hq2, zb, za, hpin, go_sem, reduceAdd, reduceMul]
theorem zbn (l : List ByteArray) (s : ByteArray) (hl : l.length <= 4194304) : zu Tryz.prog 82 [.ro (.imm 9 (row1 cS l)), .ro (.sc (.string s))] (fun rs st => rs = [(false, [cB (yD l s)])]) := by
 refine zm (fn := Tryz.f82) (c := Tryz.f82.body.getD .skip) (res := [.tm 4]) (n := 17) zf (by kernel_rfl) (by rfl) (by kernel_rfl) (by rfl) (by rfl) (by simp [zp]) (fun uf ub C hpin hpin2 hfull => ?_)
 simp only [Tryz.f82, Option.getD_some]
 refine Tri.step zf ?_
 simp +decide only [zb, za, hpin, go_sem, reduceAdd, reduceMul]
 refine Tri.step zf ?_
 simp +decide only [zb, za, hpin, go_sem, reduceAdd, reduceMul]
 refine Tri.loop (ι := Nat) (fun i => i <= l.length /\ yD (l.take i) s = false) (fun i => ⟨17, [(1, vS s), (7, .imm 9 (row1 cS l)), (8, vI l.length), (9, vI i)], []⟩) (fun i => l.length - i) 0 ⟨by simp, rfl⟩ ?_ ?_
 · refine Ent.weak ?_ ?_ ?_ ?_ <;> simp +decide [subT, subB, zk, zj, zl, St.get, look, vI, vB, vS, cI, cS, cB, zg, roI]
 · rintro i ⟨hi, hq⟩
   refine ze zf _ ?_
   by_cases h' : i < l.length
   · have e : ((i : Int) < (l.length : Int)) = True := by simp [h']
     simp +decide only [e, h', zq _ _ h', Int.natCast_nonneg, vB, vI, vS, zb, za, hpin, go_sem, reduceAdd, reduceMul]
     cases h1 : decide (l[i] = s) with
     | true =>
       have ht := XW h' h1
       simp +decide only [h1, ht, zb, za, hpin, go_sem, reduceAdd, reduceMul]
     | false =>
       simp +decide only [h1, zb, za, hpin, go_sem, reduceAdd, reduceMul]
       refine ⟨i + 1, ⟨h', by rw [XX h', hq, h1]; rfl⟩, by omega, Ent.weak ?_ ?_ ?_ ?_⟩
       all_goals simp +decide [subT, subB, zk, zj, zl, St.get, look, vI, vB, vS, cI, cS, cB, zg, roI, w64s (n := l.length) h' (by omega)]
   · have hil : i = l.length := by omega
     subst hil
     have e : ((l.length : Int) < (l.length : Int)) = False := by simp
     rw [List.take_length] at hq
     simp +decide only [e, hq, vB, vI, zb, za, hpin, go_sem, reduceAdd, reduceMul]
     refine ze zf _ ?_
     simp +decide only [hq, zb, za, hpin, go_sem, reduceAdd, reduceMul]
theorem zch (l : List ByteArray) (s : ByteArray) (hl : l.length <= 4194304) : zu Tryz.prog 197 [.ro (.imm 9 (row1 cS l)), .ro (.sc (.string s))] (fun rs st => rs = [(false, [cB (yD l s)])]) := by
 refine zm (fn := Tryz.f197) (c := Tryz.f197.body.getD .skip) (res := [.tm 4]) (n := 18) zf (by kernel_rfl) (by rfl) (by kernel_rfl) (by rfl) (by rfl) (by simp [zp]) (fun uf ub C hpin hpin2 hfull => ?_)
 simp only [Tryz.f197, Option.getD_some]
 refine Tri.step zf ?_
 simp +decide only [zb, za, hpin, go_sem, reduceAdd, reduceMul]
 refine Tri.step zf ?_
 simp +decide only [zb, za, hpin, go_sem, reduceAdd, reduceMul]
 refine Tri.loop (ι := Nat) (fun i => i <= l.length /\ yD (l.take i) s = false) (fun i => ⟨18, [(0, .imm 9 (row1 cS l)), (1, vS s), (5, vI i)], []⟩) (fun i => l.length - i) 0 ⟨by simp, rfl⟩ ?_ ?_
 · refine Ent.weak ?_ ?_ ?_ ?_ <;> simp +decide [subT, subB, zk, zj, zl, St.get, look, vI, vB, vS, cI, cS, cB, zg, roI]
 · rintro i ⟨hi, hq⟩
   refine ze zf _ ?_
   by_cases h' : i < l.length
   · have e : ((i : Int) < (l.length : Int)) = True := by simp [h']
     simp +decide only [e, h', zq _ _ h', Int.natCast_nonneg, vB, vI, vS, zb, za, hpin, go_sem, reduceAdd, reduceMul]
     cases h1 : decide (l[i] = s) with
     | true =>
       have ht := XW h' h1
       simp +decide only [h1, ht, zb, za, hpin, go_sem, reduceAdd, reduceMul]
     | false =>
       simp +decide only [h1, zb, za, hpin, go_sem, reduceAdd, reduceMul]
       refine ⟨i + 1, ⟨h', by rw [XX h', hq, h1]; rfl⟩, by omega, Ent.weak ?_ ?_ ?_ ?_⟩
       all_goals simp +decide [subT, subB, zk, zj, zl, St.get, look, vI, vB, vS, cI, cS, cB, zg, roI, w64s (n := l.length) h' (by omega)]
   · have hil : i = l.length := by omega
     subst hil
     have e : ((l.length : Int) < (l.length : Int)) = False := by simp
     rw [List.take_length] at hq
     simp +decide only [e, hq, vB, vI, zb, za, hpin, go_sem, reduceAdd, reduceMul]
     refine ze zf _ ?_
     simp +decide only [hq, zb, za, hpin, go_sem, reduceAdd, reduceMul]
def xj (k : Int) : Bool := inI k 2 6 || (k == 14 || k == 15)
theorem zbG (k : Int) : zu Tryz.prog 156 [.ro (.sc (.int .i64 k))] (fun rs st => rs = [(false, [cB (xj k)])]) := by
 refine zo (fn := Tryz.f156) (c := Tryz.f156.body.getD .skip) (res := [.tm 2]) (n := 13) zf (by kernel_rfl) (by rfl) (by kernel_rfl) (by rfl) (by rfl) (by simp [zp]) (fun C hpin hfull => ?_)
 simp +decide only [Tryz.f156, zb, za, hpin, go_sem, reduceAdd, reduceMul]
 refine zd (in' k 2 6) hpin ?_
 unfold xj
 cases h0 : inI k 2 6 with
 | true => simp +decide only [Bool.true_or, zb, za, hpin, go_sem, reduceAdd, reduceMul]
 | false =>
 cases h1 : k == 14 with
 | true => simp +decide only [h1, Bool.true_or, Bool.false_or, zb, za, hpin, go_sem, reduceAdd, reduceMul]
 | false => simp +decide only [h1, Bool.false_or, zb, za, hpin, go_sem, reduceAdd, reduceMul]
def zjg (p : ProgramD) (fn : Int) (x : NodeD) : Bool := inI (xE p.fns x.name) 0 (fn - 1) && ((fAt p.fns (xE p.fns x.name)).params.length : Int) == (x.kids.length : Int)
def ownB (p : ProgramD) (fn : Int) (nm : List ByteArray) (x : NodeD) : Bool := (!xj x.kind || yD nm x.name) && (!(x.kind == 12) || zjg p fn x)
def Xf (nodes : List NodeD) (blk : Bool) (nm : List ByteArray) (kid : Int) : List ByteArray := if blk && (nAt nodes kid).kind == 13 then nm ++ [(nAt nodes kid).name] else nm
def xY (S : Int -> List ByteArray -> Bool) (nodes : List NodeD) (blk : Bool) : List ByteArray -> List Int -> Bool
 | _, [] => true
 | nm, kid :: r => S kid nm && xY S nodes blk (Xf nodes blk nm kid) r
def zkt (p : ProgramD) (fn : Int) : Nat -> Int -> List ByteArray -> Bool
 | 0, _, _ => true
 | d + 1, k, nm => ownB p fn nm (nAt p.nodes k) && xY (zkt p fn d) p.nodes ((nAt p.nodes k).kind == 20) nm (nAt p.nodes k).kids
def zT (p : ProgramD) (fn : Int) (k : Int) (nm : List ByteArray) : Bool := zkt p fn (k.toNat + 1) k nm
theorem zaB {S T : Int -> List ByteArray -> Bool} (nodes : List NodeD) (blk : Bool) : ∀ (l : List Int) (nm : List ByteArray), (∀ kid ∈ l, ∀ nm, S kid nm = T kid nm) -> xY S nodes blk nm l = xY T nodes blk nm l
 | [], _, _ => rfl
 | kid :: r, nm, h => by
   unfold xY
   rw [h kid List.mem_cons_self, zaB nodes blk r _ (fun k hk => h k (List.mem_cons_of_mem _ hk))]
theorem zeU {p : ProgramD} (hD : Deep p.nodes) (fn : Int) : ∀ (d n : Nat) (nm : List ByteArray), n < p.nodes.length -> n < d -> zkt p fn d n nm = zT p fn n nm := by
 intro d
 induction d using Nat.strongRecOn with
 | ind d ih =>
 intro n nm hn hd
 obtain ⟨e, rfl⟩ : ∃ e, d = e + 1 := ⟨d - 1, by omega⟩
 unfold zT
 have e2 : ((n : Int).toNat + 1) = n + 1 := by omega
 rw [e2]
 unfold zkt
 rw [zF hn]
 congr 1
 apply zaB
 intro kid hk nm2
 obtain ⟨q0, q1, q2⟩ := hD.kid hn kid hk
 obtain ⟨m, rfl⟩ : ∃ m : Nat, kid = m := ⟨kid.toNat, by omega⟩
 have h1 := ih e (by omega) m nm2 (by omega) (by omega)
 by_cases hne : n = e
 · subst hne; rfl
 · have h2 := ih n (by omega) m nm2 (by omega) (by omega)
   rw [h1, h2]
theorem zcF {p : ProgramD} (hD : Deep p.nodes) (fn : Int) {n : Nat} (hn : n < p.nodes.length) (nm : List ByteArray) : zT p fn n nm = (ownB p fn nm p.nodes[n] && xY (zT p fn) p.nodes (p.nodes[n].kind == 20) nm p.nodes[n].kids) := by
 have e2 : ((n : Int).toNat + 1) = n + 1 := by omega
 unfold zT
 rw [e2]
 conv => lhs; unfold zkt
 rw [zF hn]
 congr 1
 apply zaB
 intro kid hk nm2
 obtain ⟨q0, q1, q2⟩ := hD.kid hn kid hk
 obtain ⟨m, rfl⟩ : ∃ m : Nat, kid = m := ⟨kid.toNat, by omega⟩
 exact zeU hD fn n m nm2 (by omega) (by omega)
theorem zcl (nodes : List NodeD) (blk : Bool) (nm : List ByteArray) (kid : Int) : (Xf nodes blk nm kid).length <= nm.length + 1 := by
 unfold Xf; split <;> simp
theorem zaP (l : List ByteArray) (s : ByteArray) : row1 cS l ++ [[cS s]] = row1 cS (l ++ [s]) := by simp [row1]
theorem zgH (l : List ByteArray) : (row1 cS l).all (fun x => x.all XA) = true := by simp [row1, cS, XA]
theorem zea (fns : List FnD) (j : Nat) : (∃ x, (rows (fnC true) fns).getD j [] = fnC true x) \/ (rows (fnC true) fns).getD j [] = [] := by
 by_cases h : j < fns.length
 · exact Or.inl ⟨fns[j], zh _ _ h⟩
 · right
   simp [List.getD, List.getElem?_eq_none (show (rows (fnC true) fns).length <= j by rw [yg]; omega)]
theorem zks (p : ProgramD) (hD : Deep p.nodes) (f : Nat) (hfl : f < p.fns.length) (hf : p.fns.length <= 1048576) (hn : p.nodes.length <= 1048576) (hk : ∀ x ∈ p.nodes, x.kids.length <= 300) (n : Nat) : n < p.nodes.length -> ∀ nm : List ByteArray, nm.length + 300 * n <= 4194304 ->
   zu Tryz.prog 177 [.ro (zb p), .ro (.sc (.int .i64 f)), .ro (.sc (.int .i64 n)), .ro (.imm 9 (row1 cS nm))] (fun rs st => rs = [(false, [cB (zT p f n nm)])]) := by
 induction n using Nat.strongRecOn with
 | ind n ih =>
 intro hnl nm hnm
 have hkid := hD.kid hnl
 have hkx := hk p.nodes[n] (List.getElem_mem hnl)
 have hrec : ∀ kid ∈ p.nodes[n].kids, ∀ L : List ByteArray, L.length + 300 * kid.toNat <= 4194304 -> zu Tryz.prog 177 [.ro (zb p), .ro (.sc (.int .i64 f)), .ro (.sc (.int .i64 kid)), .ro (.imm 9 (row1 cS L))] (fun rs st => rs = [(false, [cB (zT p f kid L)])]) := fun kid hkk L hL => by
   obtain ⟨q0, q1, q2⟩ := hkid kid hkk
   have e : kid = (kid.toNat : Int) := by omega
   have := ih kid.toNat q2 (by omega) L hL
   rw [<- e] at this
   exact this
 have heq := zcF hD f hnl nm
 have hx : (rows (zg true) p.nodes).getD n [] = zg true p.nodes[n] := zh _ _ hnl
 generalize zT p f n nm = R at heq |-
 generalize p.nodes[n] = x at hkid hkx hrec heq hx
 have hc1 : ((n : Int) < (p.nodes.length : Int)) = True := eq_true (by omega)
 have wf : IntKind.i64.wrap ((f : Int) - 1) = (f : Int) - 1 := w64 (by omega) (by omega)
 have hha := zbn nm x.name (by omega)
 have hfa := YW p x.name hf
 simp only [zb] at hfa hrec
 unfold ownB at heq
 refine zm (fn := Tryz.f177) (c := Tryz.f177.body.getD .skip) (res := [.tm 8]) (n := 91) zf (by kernel_rfl) (by rfl) (by kernel_rfl) (by rfl) (by rfl) (by simp [zp]) (fun uf ub C hpin hpin2 hfull => ?_)
 simp only [Tryz.f177, Option.getD_some]
 refine Tri.step zf ?_
 simp +decide only [zb, za, hpin, go_sem, reduceAdd, reduceMul]
 refine Tri.ent ?_ (Ent.frb hfull 4)
 refine Tri.step zf ?_
 simp +decide only [hc1, hx, zg, Int.natCast_nonneg, zb, za, hpin, go_sem, reduceAdd, reduceMul]
 refine Tri.ent ?_ (Ent.frb hfull 9)
 cases hu : xj x.kind && !yD nm x.name with
 | true =>
   obtain ⟨hu1, hu2⟩ := Bool.and_eq_true_iff.1 hu
   have hu3 : yD nm x.name = false := by simpa using hu2
   have hRf : R = false := by rw [heq, hu1, hu3]; rfl
   refine Tri.step zf ?_
   simp +decide only [zb, za, hpin, go_sem, reduceAdd, reduceMul]
   refine zd (zbG x.kind) hpin ?_
   simp +decide only [hu1, zb, za, hpin, go_sem, reduceAdd, reduceMul]
   refine zd hha hpin ?_
   simp +decide only [hu3, hRf, zb, za, hpin, go_sem, reduceAdd, reduceMul]
 | false =>
 have hown : (!xj x.kind || yD nm x.name) = true := by
   cases h1 : xj x.kind <;> cases h2 : yD nm x.name <;> simp [h1, h2] at hu |-
 rw [hown, Bool.true_and] at heq
 refine Tri.stop zf ⟨91, [(1, vI f), (3, .imm 9 (row1 cS nm)), (4, .ip (za true p) 0), (8, vB false), (9, .ip (zg true x) 0)], []⟩ ?_ ?_
 · simp +decide only [zb, za, hpin, go_sem, reduceAdd, reduceMul]
   refine zd (zbG x.kind) hpin ?_
   cases hu1 : xj x.kind with
   | false => simp +decide only [zb, za, hpin, go_sem, reduceAdd, reduceMul]; refine Ent.weak ?_ ?_ ?_ ?_ <;> simp +decide [subT, subB, zk, zj, zl, St.get, look, vI, vB, vS, cI, cS, cB, zg, roI, za]
   | true =>
     have hu3 : yD nm x.name = true := by simpa [hu1] using hown
     simp +decide only [zb, za, hpin, go_sem, reduceAdd, reduceMul]
     refine zd hha hpin ?_
     simp +decide only [hu3, zb, za, hpin, go_sem, reduceAdd, reduceMul]; refine Ent.weak ?_ ?_ ?_ ?_ <;> simp +decide [subT, subB, zk, zj, zl, St.get, look, vI, vB, vS, cI, cS, cB, zg, roI, za]
 have hcall : ∀ b, zjg p f x = b -> x.kind == 12 -> R = (b && xY (zT p ↑f) p.nodes (x.kind == 20) nm x.kids) := fun b hb h => by rw [heq, hb, h]; rfl
 have hncall : (x.kind == 12) = false -> R = xY (zT p ↑f) p.nodes (x.kind == 20) nm x.kids := fun h => by rw [heq, h]; rfl
 have hbr : ((x.kind == 12) = true /\ zjg p f x = false) \/ ((x.kind == 12) = false \/ zjg p f x = true) := by
   cases x.kind == 12 <;> cases zjg p f x <;> simp
 unfold zjg at hcall hbr
 rcases hbr with ⟨h12, hcb⟩ | hbr
 · have hRf := hcall _ hcb h12
   rw [Bool.false_and] at hRf
   refine Tri.step zf ?_
   simp +decide only [h12, zg, za, vB, vI, zb, za, hpin, go_sem, reduceAdd, reduceMul]
   refine zd hfa hpin ?_
   generalize xE p.fns x.name = at_ at hcb |-
   simp +decide only [za, zb, za, hpin, go_sem, reduceAdd, reduceMul]
   refine Tri.sched zf [(0, true), (1, false), (2, false), (3, false), (4, false), (5, false), (6, true), (8, true), (13, true), (7, true), (9, true), (10, true), (11, true), (12, true), (14, false), (15, false), (16, false), (17, false)] zV (by kernel_rfl) (fun C2 hC2 => ?_)
   have hp2 := zY hC2 hpin
   simp +decide only [wf, za, zb, za, hp2, go_sem, reduceAdd, reduceMul]
   refine zd (in' at_ 0 (f - 1)) hp2 ?_
   cases g0 : inI at_ 0 (f - 1) with
   | false =>
     rcases zea p.fns at_.toNat with ⟨y, hy⟩ | hy
     · simp +decide only [hy, hRf, fnC, zb, za, hp2, hpin, go_sem, reduceAdd, reduceMul]
     · simp +decide only [hy, hRf, zb, za, hp2, hpin, go_sem, reduceAdd, reduceMul]
   | true =>
     have hr := zx g0
     rw [g0, Bool.true_and] at hcb
     obtain ⟨m, rfl⟩ : ∃ m : Nat, at_ = m := ⟨at_.toNat, by omega⟩
     have hml : m < p.fns.length := by omega
     have hy : (rows (fnC true) p.fns).getD m [] = fnC true p.fns[m] := zh _ _ hml
     have hc2 : ((m : Int) < (p.fns.length : Int)) = True := eq_true (by omega)
     rw [yS hml] at hcb
     generalize p.fns[m] = y at hy hcb
     simp +decide only [hy, hc2, hcb, hRf, fnC, bne, Int.natCast_nonneg, zb, za, hp2, hpin, go_sem, reduceAdd, reduceMul]
 have heq2 : R = xY (zT p ↑f) p.nodes (x.kind == 20) nm x.kids := by
   cases h12 : x.kind == 12 with
   | false => exact hncall h12
   | true =>
     rcases hbr with h | h
     · rw [h12] at h; cases h
     · have := hcall _ h h12
       rw [this, Bool.true_and]
 refine Tri.stop zf ⟨91, [(1, vI f), (3, .imm 9 (row1 cS nm)), (4, .ip (za true p) 0), (8, vB false), (9, .ip (zg true x) 0)], []⟩ ?_ ?_
 · cases h12 : x.kind == 12 with
   | false => simp +decide only [h12, zg, za, vB, vI, zb, za, hpin, go_sem, reduceAdd, reduceMul]; refine Ent.weak ?_ ?_ ?_ ?_ <;> simp +decide [subT, subB, zk, zj, zl, St.get, look, vI, vB, vS, cI, cS, cB, zg, roI, za]
   | true =>
     have hcb := hbr.resolve_left (by rw [h12]; decide)
     simp +decide only [h12, zg, za, vB, vI, zb, za, hpin, go_sem, reduceAdd, reduceMul]
     refine zd hfa hpin ?_
     generalize xE p.fns x.name = at_ at hcb |-
     simp +decide only [za, zb, za, hpin, go_sem, reduceAdd, reduceMul]
     refine Tri.sched zf [(0, true), (1, false), (2, false), (3, false), (4, false), (5, false), (6, true), (8, true), (13, true), (7, true), (9, true), (10, true), (11, true), (12, true), (14, false), (15, false), (16, false), (17, false)] zV (by kernel_rfl) (fun C2 hC2 => ?_)
     have hp2 := zY hC2 hpin
     simp +decide only [wf, za, zb, za, hp2, go_sem, reduceAdd, reduceMul]
     refine zd (in' at_ 0 (f - 1)) hp2 ?_
     obtain ⟨g0, hcb⟩ := Bool.and_eq_true_iff.1 hcb
     have hr := zx g0
     rw [g0]
     obtain ⟨m, rfl⟩ : ∃ m : Nat, at_ = m := ⟨at_.toNat, by omega⟩
     have hml : m < p.fns.length := by omega
     have hy : (rows (fnC true) p.fns).getD m [] = fnC true p.fns[m] := zh _ _ hml
     have hc2 : ((m : Int) < (p.fns.length : Int)) = True := eq_true (by omega)
     rw [yS hml] at hcb
     generalize p.fns[m] = y at hy hcb
     simp +decide only [hy, hc2, hcb, fnC, bne, Int.natCast_nonneg, zb, za, hp2, hpin, go_sem, reduceAdd, reduceMul]
     refine Ent.weak ?_ ?_ ?_ ?_ <;> simp +decide [subT, subB, zk, zj, zl, St.get, look, vI, vB, vS, cI, cS, cB, zg, roI, za]
 refine Tri.step zf ?_
 have hfr := zgH nm
 have hb3 : nm.length <= 140737488355328 := by omega
 have hb4 : nm.length * 16 <= 140737488355328 := by omega
 simp +decide only [hfr, hb3, hb4, zg, za, vB, vI, zb, za, hpin, go_sem, reduceAdd, reduceMul]
 refine Tri.step zf ?_
 simp +decide only [zb, za, hpin, go_sem, reduceAdd, reduceMul]
 refine Tri.loop (ι := Nat × List ByteArray) (fun q => q.1 <= x.kids.length /\ q.2.length <= nm.length + q.1 /\ R = xY (zT p f) p.nodes (x.kind == 20) q.2 (x.kids.drop q.1)) (fun q => ⟨91, [(1, vI f), (4, .ip (za true p) 0), (8, vB false), (9, .ip (zg true x) 0), (11, .ref 11 [] q.2.length), (57, roI x.kids), (58, vI x.kids.length), (59, vI q.1)], [(11, .row 9 (row1 cS q.2))]⟩) (fun q => x.kids.length - q.1) (0, nm) ⟨by simp, by simp, heq2⟩ ?_ ?_
 · refine Ent.weak ?_ ?_ ?_ ?_ <;> simp +decide [subT, subB, zk, zj, zl, St.get, look, vI, vB, vS, cI, cS, cB, zg, roI, za]
 · rintro ⟨i, L⟩ ⟨hi, hLl, hR⟩
   simp only at hi hLl hR |-
   refine ze zf _ ?_
   by_cases h' : i < x.kids.length
   · have e : ((i : Int) < (x.kids.length : Int)) = True := by simp [h']
     rw [List.drop_eq_getElem_cons h', xY] at hR
     have hmem := List.getElem_mem h'
     obtain ⟨q0, q1, q2⟩ := hkid x.kids[i] hmem
     have hrs := hrec x.kids[i] hmem L (by omega)
     have htk := yx cS L
     have hkl : x.kids[i].toNat < p.nodes.length := by omega
     have z0 : (0 <= x.kids[i]) = True := eq_true q0
     have z1 : (x.kids[i] < (p.nodes.length : Int)) = True := eq_true (by omega)
     have hy : (rows (zg true) p.nodes).getD x.kids[i].toNat [] = zg true p.nodes[x.kids[i].toNat] := zh _ _ hkl
     have hgl := zcl p.nodes (x.kind == 20) L x.kids[i]
     have hgr : Xf p.nodes (x.kind == 20) L x.kids[i] = if (x.kind == 20) && p.nodes[x.kids[i].toNat].kind == 13 then L ++ [p.nodes[x.kids[i].toNat].name] else L := by unfold Xf; rw [xz hkl]
     rw [hgr] at hR hgl
     generalize p.nodes[x.kids[i].toNat] = y at hy hgr hR hgl
     simp +decide only [e, h', zq _ _ h', htk, Int.natCast_nonneg, zg, za, vB, vI, zb, za, hpin, go_sem, reduceAdd, reduceMul]
     refine zd hrs hpin ?_
     cases hs : zT p f x.kids[i] L with
     | false =>
       rw [hs, Bool.false_and] at hR
       simp +decide only [hR, htk, zb, za, hpin, go_sem, reduceAdd, reduceMul]
     | true =>
       rw [hs, Bool.true_and] at hR
       cases h20 : x.kind == 20 with
       | false =>
         rw [h20, Bool.false_and, if_neg (by decide)] at hR
         rcases zaR p.nodes x.kids[i].toNat with ⟨yy, hyy⟩ | hyy
         · simp +decide only [h20, hy, zg, htk, zb, za, hpin, go_sem, reduceAdd, reduceMul]
           refine ⟨(i + 1, L), ⟨h', by simp only; omega, hR⟩, by simp only; omega, Ent.weak ?_ ?_ ?_ ?_⟩
           all_goals simp +decide [subT, subB, zk, zj, zl, St.get, look, vI, vB, vS, cI, cS, cB, zg, roI, za, htk, w64s (n := x.kids.length) h' (by omega)]
         · rw [hy] at hyy; simp [zg] at hyy
       | true =>
         rw [h20, Bool.true_and] at hR
         cases h13 : y.kind == 13 with
         | false =>
           rw [h13, if_neg (by decide)] at hR
           simp +decide only [h20, h13, z0, z1, hy, zg, htk, zb, za, hpin, go_sem, reduceAdd, reduceMul]
           refine ⟨(i + 1, L), ⟨h', by simp only; omega, hR⟩, by simp only; omega, Ent.weak ?_ ?_ ?_ ?_⟩
           all_goals simp +decide [subT, subB, zk, zj, zl, St.get, look, vI, vB, vS, cI, cS, cB, zg, roI, za, htk, w64s (n := x.kids.length) h' (by omega)]
         | true =>
           rw [h13, if_pos rfl] at hR
           have hsn := zaP L y.name
           simp only [cS] at hsn
           have hb1 : L.length + 1 <= 140737488355328 := by omega
           have hb2 : (L.length + 1) * 16 <= 140737488355328 := by omega
           simp +decide only [h20, h13, z0, z1, hy, zg, htk, hb1, hb2, hsn, zb, za, hpin, go_sem, reduceAdd, reduceMul]
           refine ⟨(i + 1, L ++ [y.name]), ⟨h', by simp; omega, hR⟩, by simp only; omega, Ent.weak ?_ ?_ ?_ ?_⟩
           all_goals simp +decide [subT, subB, zk, zj, zl, St.get, look, vI, vB, vS, cI, cS, cB, zg, roI, za, htk, w64s (n := x.kids.length) h' (by omega)]
   · have hil : i = x.kids.length := by omega
     subst hil
     have e : ((x.kids.length : Int) < (x.kids.length : Int)) = False := by simp
     rw [List.drop_length] at hR
     have hRt : R = true := hR
     simp +decide only [e, hRt, za, vB, vI, zb, za, hpin, go_sem, reduceAdd, reduceMul]
     refine ze zf _ ?_
     simp +decide only [zb, za, hpin, go_sem, reduceAdd, reduceMul]
def vr0 : VarD := ⟨⟨#[]⟩, 0, 0⟩
def zeD (l : List VarD) (i : Nat) : Bool := yp l (l.getD i vr0).name == (i : Int)
noncomputable def zdI (p : ProgramD) (fn : Int) : Bool := zJ (zeD (xq p fn)) (xq p fn).length
def parN (l : List ParamD) : List ByteArray := l.map (fun x => x.name)
def Zw (nodes : List NodeD) (nm : List ByteArray) (l : List Int) : List ByteArray := l.foldl (Xf nodes true) nm
noncomputable def xa (p : ProgramD) (i : Nat) : Bool := zdI p i && (zT p i (fAt p.fns i).body (parN (fAt p.fns i).params) && (decide ((fAt p.fns i).ret < 0) || zT p i (fAt p.fns i).ret (Zw p.nodes (parN (fAt p.fns i).params) (nAt p.nodes (fAt p.fns i).body).kids)))
noncomputable def yi (p : ProgramD) : Bool := xG p && zJ (xa p) p.fns.length
theorem xO (p : ProgramD) (fn : Int) (hpl : ∀ f ∈ p.fns, f.params.length <= 1048576) (hn : p.nodes.length <= 1048576) : (xq p fn).length <= 2097152 := by
 unfold xq
 split
 · rename_i h0
   have hr := zx h0
   obtain ⟨f, rfl⟩ : ∃ f : Nat, fn = f := ⟨fn.toNat, by omega⟩
   have hfl : f < p.fns.length := by omega
   rw [yS hfl, List.length_append, ZS]
   have h1 := hpl p.fns[f] (List.getElem_mem hfl)
   have h2 := zay p.nodes (zI p.nodes p.fns[f].body)
   have h3 := yu p.nodes p.fns[f].body
   omega
 · simp
theorem Deep.few {nodes : List NodeD} (h : Deep nodes) : ∀ x ∈ nodes, x.kids.length <= 12 := fun x hx => by
 obtain ⟨i, hi, rfl⟩ := List.getElem_of_mem hx
 have hb := Zn nodes i (h.deep i hi)
 simp only [ZC, Bool.and_eq_true, Xc] at hb
 obtain ⟨_, _, hs, _⟩ := hb
 rw [zF hi] at hs
 have h1 := zx hs
 have h2 := znc nodes[i].kind
 omega
structure Right (p : ProgramD) : Prop where
 few : p.nodes.length <= 300
 fns : p.fns.length <= 8
 deep : Deep p.nodes
 fn : ∀ i (h : i < p.fns.length), YV p p.fns[i] = true
theorem yh {p : ProgramD} (h : xG p = true) : Right p := by
 simp only [xG, Bool.and_eq_true] at h
 obtain ⟨h0, h1, h2, h3, h4⟩ := h
 have hr0 := zx h0
 have hr1 := zx h1
 refine ⟨by omega, by omega, zjf (by simpa using h2), fun i hi => ?_⟩
 have := yn.1 h3 i hi
 unfold xi at this
 rw [yS hi] at this
 exact (Bool.and_eq_true_iff.1 this).1
theorem zec {p : ProgramD} {f : FnD} (h : YV p f = true) : f.params.length <= 3 := by
 simp only [YV, Bool.and_eq_true] at h
 have := of_decide_eq_true h.2.1
 omega
theorem zhi {l : List ParamD} {i : Nat} (h : i < l.length) : row1 cS (parN (l.take i)) ++ [[cS l[i].name]] = row1 cS (parN (l.take (i + 1))) := by
 unfold parN
 rw [List.take_succ_eq_append_getElem h, List.map_append, zaP]; rfl
theorem xn (l : List ParamD) : (parN l).length = l.length := by simp [parN]
theorem zff (nodes : List NodeD) (nm : List ByteArray) {l : List Int} {i : Nat} (h : i < l.length) : Zw nodes nm (l.take (i + 1)) = Xf nodes true (Zw nodes nm (l.take i)) l[i] := by
 unfold Zw
 rw [List.take_succ_eq_append_getElem h, List.foldl_append]; rfl
theorem Ym (nodes : List NodeD) : ∀ (l : List Int) (nm : List ByteArray), (Zw nodes nm l).length <= nm.length + l.length
 | [], nm => by simp [Zw]
 | k :: r, nm => by
   have h1 := Ym nodes r (Xf nodes true nm k)
   have h2 := zcl nodes true nm k
   unfold Zw at h1 |-
   rw [List.foldl_cons, List.length_cons]; omega
theorem zfT (p : ProgramD) (fn : Int) (hf : p.fns.length <= 1048576) (hn : p.nodes.length <= 1048576) (hk : ∀ x ∈ p.nodes, x.kids.length <= 1048576) (hpl : ∀ f ∈ p.fns, f.params.length <= 1048576) : zu Tryz.prog 176 [.ro (zb p), .ro (.sc (.int .i64 fn))] (fun rs st => rs = [(false, [cB (zdI p fn)])]) := by
 have hvs := zcO p fn hf hn hk hpl
 have hvl := xO p fn hpl hn
 unfold zdI
 generalize xq p fn = l at hvs hvl |-
 have hva := fun s => Xk l s (by omega)
 simp only [zb] at hvs
 refine zm (fn := Tryz.f176) (c := Tryz.f176.body.getD .skip) (res := [.tm 4]) (n := 25) zf (by kernel_rfl) (by rfl) (by kernel_rfl) (by rfl) (by rfl) (by simp [zp]) (fun uf ub C hpin hpin2 hfull => ?_)
 simp only [Tryz.f176, Option.getD_some]
 refine Tri.step zf ?_
 simp +decide only [zb, za, hpin, go_sem, reduceAdd, reduceMul]
 refine Tri.ent ?_ (Ent.frb hfull 2)
 refine Tri.step zf ?_
 simp +decide only [zb, za, hpin, go_sem, reduceAdd, reduceMul]
 refine zd hvs hpin ?_
 simp +decide only [zb, za, hpin, go_sem, reduceAdd, reduceMul]
 refine Tri.ent ?_ (Ent.frz hfull 5)
 refine Tri.step zf ?_
 simp +decide only [zb, za, hpin, go_sem, reduceAdd, reduceMul]
 refine Tri.loop (ι := Nat) (fun i => i <= l.length /\ zJ (zeD l) i = true) (fun i => ⟨25, [(4, vB false), (5, .imm 96 (rows (varC true) l)), (11, .imm 96 (rows (varC true) l)), (12, vI l.length), (13, vI i)], []⟩) (fun i => l.length - i) 0 ⟨by simp, rfl⟩ ?_ ?_
 · refine Ent.weak ?_ ?_ ?_ ?_ <;> simp +decide [subT, subB, zk, zj, zl, St.get, look, vI, vB, vS, cI, cS, cB, zg, roI]
 · rintro i ⟨hi, hq⟩
   refine ze zf _ ?_
   by_cases h' : i < l.length
   · have e : ((i : Int) < (l.length : Int)) = True := by simp [h']
     have hov : zeD l i = (yp l l[i].name == (i : Int)) := by simp [zeD, List.getD, h']
     simp +decide only [e, h', zh _ _ h', varC, Int.natCast_nonneg, vB, vI, zb, za, hpin, go_sem, reduceAdd, reduceMul]
     refine zd (hva l[i].name) hpin ?_
     cases hz : yp l l[i].name == (i : Int) with
     | false =>
       have hff : zJ (zeD l) l.length = false := zw h' (by rw [hov, hz])
       simp +decide only [hz, hff, bne, zb, za, hpin, go_sem, reduceAdd, reduceMul]
     | true =>
       simp +decide only [hz, bne, zb, za, hpin, go_sem, reduceAdd, reduceMul]
       refine ⟨i + 1, ⟨h', by rw [zN, hq, hov, hz]; rfl⟩, by omega, Ent.weak ?_ ?_ ?_ ?_⟩
       all_goals simp +decide [subT, subB, zk, zj, zl, St.get, look, vI, vB, vS, cI, cS, cB, zg, roI, w64s (n := l.length) h' (by omega)]
   · have hil : i = l.length := by omega
     subst hil
     have e : ((l.length : Int) < (l.length : Int)) = False := by simp
     simp +decide only [e, vB, vI, zb, za, hpin, go_sem, reduceAdd, reduceMul]
     refine ze zf _ ?_
     simp +decide only [hq, zb, za, hpin, go_sem, reduceAdd, reduceMul]
theorem Zj (p : ProgramD) (hf : p.fns.length <= 1048576) (hn : p.nodes.length <= 1048576) (hk : ∀ x ∈ p.nodes, x.kids.length <= 1048576) (hpl : ∀ f ∈ p.fns, f.params.length <= 1048576) : zu Tryz.prog 116 [.ro (zb p)] (fun rs st => rs = [(false, [cB (yi p)])]) := by
 have hps := zeB p hf hn hk hpl
 have hns := fun fn => zfT p fn hf hn hk hpl
 simp only [zb] at hps hns
 unfold yi
 refine zm (fn := Tryz.f116) (c := Tryz.f116.body.getD .skip) (res := [.tm 2]) (n := 87) zf (by kernel_rfl) (by rfl) (by kernel_rfl) (by rfl) (by rfl) (by simp [zp]) (fun uf ub C hpin hpin2 hfull => ?_)
 simp only [Tryz.f116, Option.getD_some]
 refine Tri.step zf ?_
 simp +decide only [zb, za, hpin, go_sem, reduceAdd, reduceMul]
 refine Tri.ent ?_ (Ent.frb hfull 1)
 refine Tri.step zf ?_
 simp +decide only [zb, za, hpin, go_sem, reduceAdd, reduceMul]
 refine zd hps hpin ?_
 cases h0 : xG p with
 | false => simp +decide only [zb, za, hpin, go_sem, reduceAdd, reduceMul]
 | true =>
 have hG := yh h0
 simp +decide only [zb, za, hpin, go_sem, reduceAdd, reduceMul]
 refine Tri.step zf ?_
 simp +decide only [zb, za, hpin, go_sem, reduceAdd, reduceMul]
 refine Tri.loop (ι := Nat) (fun i => i <= p.fns.length /\ zJ (xa p) i = true) (fun i => ⟨87, [(1, .ip (za true p) 0), (2, vB false), (14, .imm 104 (rows (fnC true) p.fns)), (15, vI p.fns.length), (16, vI i)], []⟩) (fun i => p.fns.length - i) 0 ⟨by simp, rfl⟩ ?_ ?_
 · refine Ent.weak ?_ ?_ ?_ ?_ <;> simp +decide [subT, subB, zk, zj, zl, St.get, look, vI, vB, vS, cI, cS, cB, zg, roI, za]
 · rintro i ⟨hi, hq⟩
   refine ze zf _ ?_
   by_cases h' : i < p.fns.length
   · have e : ((i : Int) < (p.fns.length : Int)) = True := by simp [h']
     have hx : (rows (fnC true) p.fns).getD i [] = fnC true p.fns[i] := zh _ _ h'
     have hok := hG.fn i h'
     have hfe : xa p i = (zdI p i && (zT p i p.fns[i].body (parN p.fns[i].params) && (decide (p.fns[i].ret < 0) || zT p i p.fns[i].ret (Zw p.nodes (parN p.fns[i].params) (nAt p.nodes p.fns[i].body).kids)))) := by unfold xa; rw [yS h']
     have hplx := hpl p.fns[i] (List.getElem_mem h')
     have hp3 := zec hok
     obtain ⟨⟨b0, b1⟩, hret⟩ := xT hok
     generalize p.fns[i] = g at hx hok hfe hplx hp3 b0 b1 hret
     simp +decide only [e, h', hx, fnC, Int.natCast_nonneg, za, vB, vI, zb, za, hpin, go_sem, reduceAdd, reduceMul]
     refine zd (hns i) hpin ?_
     cases g0 : zdI p i with
     | false =>
       have hff : zJ (xa p) p.fns.length = false := zw h' (by rw [hfe, g0]; rfl)
       simp +decide only [hff, zb, za, hpin, go_sem, reduceAdd, reduceMul]
     | true =>
     rw [g0, Bool.true_and] at hfe
     simp +decide only [zb, za, hpin, go_sem, reduceAdd, reduceMul]
     refine Tri.loop (ι := Nat) (fun j => j <= g.params.length) (fun j => ⟨87, [(1, .ip (za true p) 0), (2, vB false), (3, vI i), (4, .bp 4 0), (14, .imm 104 (rows (fnC true) p.fns)), (15, vI p.fns.length), (16, vI i), (5, .ref 5 [] (parN (g.params.take j)).length), (26, .imm 107 (rows (zr true) g.params)), (27, vI g.params.length), (28, vI j)], [(5, .row 9 (row1 cS (parN (g.params.take j)))), (4, .box (fnC true g))]⟩) (fun j => g.params.length - j) 0 (by simp) ?_ ?_
     · refine Ent.weak ?_ ?_ ?_ ?_ <;> simp +decide [subT, subB, zk, zj, zl, St.get, look, vI, vB, vS, cI, cS, cB, zg, roI, za, fnC, parN, row1]
     · rintro j hj
       refine ze zf _ ?_
       by_cases hj' : j < g.params.length
       · have e2 : ((j : Int) < (g.params.length : Int)) = True := by simp [hj']
         have hy : (rows (zr true) g.params).getD j [] = zr true g.params[j] := zh _ _ hj'
         have hsn := zhi hj'
         have hll : (parN (g.params.take j)).length <= 3 := by rw [xn, List.length_take]; omega
         have hl2 : (parN (g.params.take (j + 1))).length = (parN (g.params.take j)).length + 1 := by rw [xn, xn, List.length_take, List.length_take]; omega
         have htk := yx cS (parN (g.params.take j))
         have hb1 : (parN (g.params.take j)).length + 1 <= 140737488355328 := by omega
         have hb2 : ((parN (g.params.take j)).length + 1) * 16 <= 140737488355328 := by omega
         simp only [cS] at hsn
         simp +decide only [e2, hy, zr, hb1, hb2, htk, hsn, Int.natCast_nonneg, za, fnC, vB, vI, zb, za, hpin, go_sem, reduceAdd, reduceMul]
         refine ⟨j + 1, hj', by omega, Ent.weak ?_ ?_ ?_ ?_⟩
         all_goals simp +decide [subT, subB, zk, zj, zl, St.get, look, vI, vB, vS, cI, cS, cB, zg, roI, za, fnC, hl2, w64s (n := g.params.length) hj' (by omega)]
       · have hjl : j = g.params.length := by omega
         subst hjl
         have e2 : ((g.params.length : Int) < (g.params.length : Int)) = False := by simp
         have hnl : (parN g.params).length <= 3 := by rw [xn]; omega
         obtain ⟨b, hbb⟩ : ∃ b : Nat, g.body = b := ⟨g.body.toNat, by omega⟩
         have hbl : b < p.nodes.length := by omega
         have hxb : (rows (zg true) p.nodes).getD b [] = zg true p.nodes[b] := zh _ _ hbl
         have hcb : ((b : Int) < (p.nodes.length : Int)) = True := eq_true (by omega)
         have hk3 : ∀ x ∈ p.nodes, x.kids.length <= 300 := fun x hx => by have := hG.deep.few x hx; omega
         have hkf := hG.deep.few p.nodes[b] (List.getElem_mem hbl)
         have hkid := hG.deep.kid hbl
         have hfew := hG.few
         have hsee : ∀ (n : Nat), n < p.nodes.length -> ∀ nm : List ByteArray, nm.length <= 1000 -> _ := fun n hnl nm hnm => zks p hG.deep i h' hf hn hk3 n hnl nm (by omega)
         simp only [zb] at hsee
         rw [hbb, zF hbl] at hfe
         generalize hnm : parN g.params = nm0 at hnl hfe
         have htk := yx cS nm0
         have hs1 := hsee b hbl nm0 (by omega)
         simp +decide only [e2, hnm, hbb, htk, za, fnC, vB, vI, zb, za, hpin, go_sem, reduceAdd, reduceMul]
         refine zd hs1 hpin ?_
         cases g1 : zT p i b nm0 with
         | false =>
           rw [g1, Bool.false_and] at hfe
           have hff : zJ (xa p) p.fns.length = false := zw h' hfe
           simp +decide only [hff, htk, zb, za, hpin, go_sem, reduceAdd, reduceMul]
         | true =>
         rw [g1, Bool.true_and] at hfe
         generalize p.nodes[b] = x at hxb hkf hkid hfe
         simp +decide only [hcb, hxb, zg, htk, Int.natCast_nonneg, zb, za, hpin, go_sem, reduceAdd, reduceMul]
         refine Tri.loop (ι := Nat) (fun k => k <= x.kids.length) (fun k => ⟨87, [(1, .ip (za true p) 0), (2, vB false), (3, vI i), (4, .bp 4 0), (14, .imm 104 (rows (fnC true) p.fns)), (15, vI p.fns.length), (16, vI i), (5, .ref 5 [] (Zw p.nodes nm0 (x.kids.take k)).length), (51, roI x.kids), (52, vI x.kids.length), (53, vI k)], [(5, .row 9 (row1 cS (Zw p.nodes nm0 (x.kids.take k)))), (4, .box (fnC true g))]⟩) (fun k => x.kids.length - k) 0 (by simp) ?_ ?_
         · have e9 : Zw p.nodes nm0 [] = nm0 := rfl
           refine Ent.weak ?_ ?_ ?_ ?_ <;> simp +decide [subT, subB, zk, zj, zl, St.get, look, vI, vB, vS, cI, cS, cB, zg, roI, za, fnC, e9, hbb]
         · rintro k hkk
           refine ze zf _ ?_
           have hgl := Ym p.nodes (x.kids.take k) nm0
           rw [List.length_take] at hgl
           by_cases hk' : k < x.kids.length
           · have e3 : ((k : Int) < (x.kids.length : Int)) = True := by simp [hk']
             obtain ⟨q0, q1, q2⟩ := hkid x.kids[k] (List.getElem_mem hk')
             have hkl : x.kids[k].toNat < p.nodes.length := by omega
             have z0 : (0 <= x.kids[k]) = True := eq_true q0
             have z1 : (x.kids[k] < (p.nodes.length : Int)) = True := eq_true (by omega)
             have hy : (rows (zg true) p.nodes).getD x.kids[k].toNat [] = zg true p.nodes[x.kids[k].toNat] := zh _ _ hkl
             have hnx := zff p.nodes nm0 hk'
             unfold Xf at hnx
             rw [xz hkl, Bool.true_and] at hnx
             generalize p.nodes[x.kids[k].toNat] = y at hy hnx
             generalize hLL : Zw p.nodes nm0 (x.kids.take k) = L at hnx hgl
             have htk2 := yx cS L
             have hsn := zaP L y.name
             simp only [cS] at hsn
             have hb1 : L.length + 1 <= 140737488355328 := by omega
             have hb2 : (L.length + 1) * 16 <= 140737488355328 := by omega
             simp +decide only [e3, z0, z1, hy, zg, zq _ _ hk', Int.natCast_nonneg, za, fnC, vB, vI, zb, za, hpin, go_sem, reduceAdd, reduceMul]
             cases h13 : y.kind == 13 with
             | false =>
               rw [h13, if_neg (by decide)] at hnx
               simp +decide only [h13, zb, za, hpin, go_sem, reduceAdd, reduceMul]
               refine ⟨k + 1, hk', by omega, Ent.weak ?_ ?_ ?_ ?_⟩
               all_goals simp +decide only [hnx]
               all_goals simp +decide [subT, subB, zk, zj, zl, St.get, look, vI, vB, vS, cI, cS, cB, zg, roI, za, fnC, w64s (n := x.kids.length) hk' (by omega)]
             | true =>
               rw [h13, if_pos rfl] at hnx
               simp +decide only [h13, z0, z1, hy, zg, hb1, hb2, htk2, hsn, zb, za, hpin, go_sem, reduceAdd, reduceMul]
               refine ⟨k + 1, hk', by omega, Ent.weak ?_ ?_ ?_ ?_⟩
               all_goals simp +decide only [hnx]
               all_goals simp +decide [subT, subB, zk, zj, zl, St.get, look, vI, vB, vS, cI, cS, cB, zg, roI, za, fnC, w64s (n := x.kids.length) hk' (by omega)]
           · have hkl : k = x.kids.length := by omega
             subst hkl
             have e3 : ((x.kids.length : Int) < (x.kids.length : Int)) = False := by simp
             rw [List.take_length] at *
             generalize Zw p.nodes nm0 x.kids = L at hfe hgl |-
             have htk2 := yx cS L
             simp +decide only [e3, htk2, za, fnC, vB, vI, zb, za, hpin, go_sem, reduceAdd, reduceMul]
             rcases hret with hneg | ⟨x0, x1⟩
             · have y0 : (0 <= g.ret) = False := eq_false (by omega)
               have y1 : decide (g.ret < 0) = true := decide_eq_true hneg
               rw [y1, Bool.true_or] at hfe
               simp +decide only [y0, zb, za, hpin, go_sem, reduceAdd, reduceMul]
               refine ⟨i + 1, ⟨h', by rw [zN, hq, hfe]; rfl⟩, by omega, Ent.weak ?_ ?_ ?_ ?_⟩
               all_goals simp +decide [subT, subB, zk, zj, zl, St.get, look, vI, vB, vS, cI, cS, cB, zg, roI, za, w64s (n := p.fns.length) h' (by omega)]
             · have y0 : (0 <= g.ret) = True := eq_true x0
               have y1 : decide (g.ret < 0) = false := decide_eq_false (by omega)
               rw [y1, Bool.false_or] at hfe
               obtain ⟨r, hrr⟩ : ∃ r : Nat, g.ret = r := ⟨g.ret.toNat, by omega⟩
               have hrl : r < p.nodes.length := by omega
               have hs2 := hsee r hrl L (by omega)
               rw [hrr] at hfe
               simp +decide only [y0, hrr, htk2, Int.natCast_nonneg, zb, za, hpin, go_sem, reduceAdd, reduceMul]
               refine zd hs2 hpin ?_
               cases g2 : zT p i r L with
               | false =>
                 rw [g2] at hfe
                 have hff : zJ (xa p) p.fns.length = false := zw h' hfe
                 simp +decide only [hff, htk2, zb, za, hpin, go_sem, reduceAdd, reduceMul]
               | true =>
                 rw [g2] at hfe
                 simp +decide only [htk2, zb, za, hpin, go_sem, reduceAdd, reduceMul]
                 refine ⟨i + 1, ⟨h', by rw [zN, hq, hfe]; rfl⟩, by omega, Ent.weak ?_ ?_ ?_ ?_⟩
                 all_goals simp +decide [subT, subB, zk, zj, zl, St.get, look, vI, vB, vS, cI, cS, cB, zg, roI, za, w64s (n := p.fns.length) h' (by omega)]
   · have hil : i = p.fns.length := by omega
     subst hil
     have e : ((p.fns.length : Int) < (p.fns.length : Int)) = False := by simp
     simp +decide only [e, vB, vI, zb, za, hpin, go_sem, reduceAdd, reduceMul]
     refine ze zf _ ?_
     simp +decide only [hq, zb, za, hpin, go_sem, reduceAdd, reduceMul]
end Go.Proofs.YtjjigphfjclofaaGreatDoor.AW
