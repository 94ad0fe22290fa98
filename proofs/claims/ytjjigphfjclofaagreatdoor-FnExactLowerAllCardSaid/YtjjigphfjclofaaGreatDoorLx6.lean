/- What the statements of this set lean on, part 6. No condition beyond those named. -/
import Derived.Test.YtjjigphfjclofaaGreatDoorLx5
import Derived.Shelf.Lay
import Derived.Shelf.Sort.Plain
import Derived.Shelf.Slices.In.SortNone2
import Derived.Sort.OwnSortedInts
namespace Go.Proofs
open Go.Shelf
shelf_lay Lays.n191 Nm 191 at Tryz as YtjjigphfjclofaaGreatDoorlays
end Go.Proofs
namespace Go.Proofs.YtjjigphfjclofaaGreatDoor.AW
open Go.RowKit Go.Sort
set_option maxHeartbeats 8000000
set_option maxRecDepth 100000
set_option linter.unusedSimpArgs false
set_option linter.unusedVariables false
def Ze (l : List Int) : List Int := l.mergeSort fun x y => decide (x <= y)
theorem Zn (l : List Int) : (Ze l).length = l.length := (List.mergeSort_perm l _).length_eq
theorem zkU (l : List Int) (x : Int) : x ∈ Ze l ↔ x ∈ l := (List.mergeSort_perm l _).mem_iff
theorem zlZ (l : List Int) : (Ze l).Pairwise (· <= ·) := by
 have := List.pairwise_mergeSort (le := fun x y : Int => decide (x <= y)) (fun a b c h1 h2 => by simp at *; omega) (fun a b => by simp; omega) l
 exact this.imp (fun h => by simpa using h)
theorem zdB : ∀ {l m : List Int}, l.Pairwise (· < ·) -> m.Pairwise (· < ·) -> (∀ x, x ∈ l ↔ x ∈ m) -> l = m
 | [], [], _, _, _ => rfl
 | [], y :: m, _, _, h => by have := (h y).2 List.mem_cons_self; simp at this
 | x :: l, [], _, _, h => by have := (h x).1 List.mem_cons_self; simp at this
 | x :: l, y :: m, hl, hm, h => by
   have hl' := List.pairwise_cons.1 hl
   have hm' := List.pairwise_cons.1 hm
   have hxy : x = y := by
     have h1 := (h x).1 List.mem_cons_self
     have h2 := (h y).2 List.mem_cons_self
     rcases List.mem_cons.1 h1 with e | e
     · exact e
     · rcases List.mem_cons.1 h2 with e' | e'
       · exact e'.symm
       · have a := hl'.1 y e'; have b := hm'.1 x e; omega
   subst hxy
   congr 1
   refine zdB hl'.2 hm'.2 (fun z => ⟨fun hz => ?_, fun hz => ?_⟩)
   · rcases List.mem_cons.1 ((h z).1 (List.mem_cons_of_mem _ hz)) with e | e
     · subst e; have := hl'.1 z hz; omega
     · exact e
   · rcases List.mem_cons.1 ((h z).2 (List.mem_cons_of_mem _ hz)) with e | e
     · subst e; have := hm'.1 z hz; omega
     · exact e
theorem zma {l m : List Int} (hn : l.Nodup) (hm : m.Pairwise (· < ·)) (h : ∀ x, x ∈ l ↔ x ∈ m) : Ze l = m := by
 refine zdB ?_ hm (fun x => (zkU l x).trans (h x))
 have h1 := zlZ l
 have h2 : (Ze l).Nodup := (List.mergeSort_perm l _).nodup_iff.2 hn
 exact List.Pairwise.imp₂ (fun a b hab hne => by omega) h1 h2
theorem zeW (l : List Int) (hlen : l.length < 4611686018427387904) : SoundAt Tryz.prog 154 (fun uf => zq 0 [.ro (.ref 2000 [] l.length)]) [(2000, .row 3 (row1 cI l))] (fun rs st => rs = [] /\ yh st.ob [(2000, .row 3 (row1 cI (Ze l)))]) := by
 refine ⟨by kernel_rfl, fun uf ub C w gh us hw hpin hpin2 hfull hus hR => ?_⟩
 have h0 := hR.tms 0
 have e0 : St.get ⟨us.size, zipT 0 (zq 0 [Arg.ro (.ref 2000 [] l.length)]), [(2000, Ob.row 3 (row1 cI l))]⟩ 0 = .ref 2000 [] l.length := rfl
 rw [e0] at h0
 have hus1 : us.size = 1 := hus
 obtain ⟨u, rfl⟩ : ∃ u, us = #[u] := ⟨us[0], by apply Array.ext (by simp [hus1]); intro i h1 h2; simp at h2; subst h2; rfl⟩
 have eu : (#[u] : Array Value).getD 0 undef = u := rfl
 simp only [eu] at h0
 have hob := hR.obs 2000 (.row 3 (row1 cI l)) rfl
 cases h0 with
 | @ref o n p x e es A c hx hn hle =>
 have hx' : Ob.row 3 (row1 cI l) = x := by simpa [look] using hx
 subst hx'
 obtain ⟨rfl, rfl, hv⟩ := xV hn
 rw [zW] at hv
 cases hob with
 | row how =>
 have hwr := hR.wrR 2000 3 (row1 cI l)
 have hns := hR.nS 2000 (.row 3 (row1 cI l))
 generalize hF : gh.F 2000 = F0 at how hwr hns
 generalize hvv : gh.hv 2000 = v0 at how hv
 subst hv
 generalize hq : Value.slice A l.length c = v at how
 generalize hes : row1 cI l = es at how
 generalize hD : D.row false 3 es = dd at how
 cases how with
 | dead | sc | shared => cases hD
 | @row e' es' v' xs F own hsz h1 hxx dis nb =>
 injection hD with _ he hes2
 subst he
 subst hes2
 subst hes
 subst hq
 have hxs : xs = l.map (Value.int .i64) := by
   have hl0 := own.1
   rw [zho, Nat.mul_one, zW] at hl0
   refine List.ext_getElem (by simp [hl0]) (fun i g1 g2 => ?_)
   have hil : i < l.length := by omega
   have := hxx i 0 (cI l[i]) (by unfold cellAt; rw [zbw cI l hil]; rfl)
   rw [zho, Nat.mul_one, Nat.add_zero] at this
   have e1 : xs.getD i undef = xs[i] := by simp [List.getD, g1]
   rw [e1] at this
   have h2 := Ow.ro (S' := fun _ => True) this (fun _ _ => trivial) (fun _ _ => trivial)
   generalize xs[i] = y at h2
   cases h2
   simp
 have hres : ∀ (w' : World) (S : Nat -> Prop), Res Tryz.prog w' S [] [] (fun _ _ _ => False) := fun w' S =>
   ⟨rfl, fun i r v h => by simp at h, fun i r v h => by simp at h, fun i r v h => by simp at h, fun i v h => by simp at h, fun i r v j d h => by simp at h, fun i j i' j' r r' d d' k h => by simp at h⟩
 have hnone : ∀ k, ZZ [] (fun _ _ _ => False) k -> False := fun k ⟨i, j, r, d, h, _⟩ => by simp at h
 rcases own.2 with ⟨hnil, hn0⟩ | ⟨g, cap, cur, hval, _, hblk, hnc, hcm, hcs, htk⟩
 · rw [zW] at hn0
   have hl0 : l = [] := List.eq_nil_of_length_eq_zero hn0
   subst hl0
   injection hnil with g1 g2 g3
   subst g1
   subst g3
   refine (Any.sort_Ints_none YtjjigphfjclofaaGreatDoorlays none 0 w).mono (fun e w' he => ?_)
   obtain ⟨rfl, rfl⟩ := he
   exact ⟨[], [], _, _, gh, fun _ _ _ => False, rfl, ⟨rfl, by simp [yh, look, Ze]⟩, hres _ _, hR.less (fun k hk => (hnone k hk).elim)⟩
 · rw [zW] at hval hnc htk
   injection hval with g1 g2 g3
   subst g1
   subst g3
   rw [zho, Nat.mul_one] at htk
   rw [zho, Nat.mul_one] at hcs
   have hgl : g < w.heap.size := (Array.getElem?_eq_some_iff.1 hblk).1
   refine (Any.sort_Ints YtjjigphfjclofaaGreatDoorlays g 0 c l w (holds_of_blockI hblk (by rw [htk, hxs])) hgl hlen).mono (fun e w' he => ?_)
   obtain ⟨rfl, n, os, rfl⟩ := he
   have hgb := grownBy_sortedI (w := w) (g := g) (n := n) (os := os) (Ze l).toArray
   have hgr := ownsRow_sortedI (n := n) (os := os) (base := 0) (Zn l) (Nat.zero_le g) hblk hnc hcm (by simpa using hcs)
   have hheap := heap_sortedI (n := n) (os := os) (Ze l).toArray hblk
   generalize hw' : grow (putRow (Value.int .i64) (Sort.ahead w n) g 0 (Ze l).toArray) os = w' at hgb hgr hheap
   have hgF : gh.F 2000 g := by rw [hF]; exact Or.inl rfl
   have hwg := hR.wrR 2000 3 (row1 cI l) g rfl hgF
   have hnsg := hR.nS 2000 (.row 3 (row1 cI l)) g rfl hgF
   have hone : ∀ o, o ∉ [2000] -> ∀ (q : Ob), look [(2000, q)] o = none := fun o ho q => by
     have : o ≠ 2000 := by simpa using ho
     simp [look, this]
   let st0 : St := ⟨(#[Value.slice (some ⟨g, 0, none⟩) l.length c]).size, zipT 0 (zq 0 [Arg.ro (.ref 2000 [] l.length)]), [(2000, Ob.row 3 (row1 cI l))]⟩
   let st' : St := ⟨st0.nt, mapT (xi [2000]) st0.tm, [(2000, .row 3 (row1 cI (Ze l)))]⟩
   have hR0 : Rep Tryz.prog C No st0 ⟨#[Value.slice (some ⟨g, 0, none⟩) l.length c], []⟩ w gh := hR
   have hlo : ∀ o, o ∈ [2000] -> o = 2000 := fun o ho => by simpa using ho
   obtain ⟨gh', hr', _, _⟩ := hR0.multi (st' := st') (w1 := w') [2000] (fun o => look st'.ob o) (fun o k => k = g) (fun _ => False) (fun o ho => rfl) (fun o ho => (hone o ho _).trans (hone o ho _).symm)
     (fun t => by unfold St.get; simp only [st', xT]; cases look st0.tm t <;> simp [xi]) rfl
     (fun o ho => by
       rw [hlo o ho]
       exact ⟨3, row1 cI l, row1 cI (Ze l), rfl, rfl, by rw [zW, zW, Zn]⟩)
     hgb.size (fun o x k ho hx => by rw [hone o ho] at hx; cases hx)
     (fun k hk => hgb.block k (hR.sS k hk) (fun e => by cases e; exact hnsg hk))
     ⟨hgb.os, hgb.output, fun i hi => by
       by_cases hig : i = g
       · subst hig
         rw [hblk, hheap]
         refine ⟨rfl, rfl, by simp [putCells], fun j hj => (hj ⟨i, j, rfl, hwg.imp id (fun hh => hh j)⟩).elim⟩
       · have h1 := hgb.block i hi (fun e => hig (by cases e; rfl))
         have h2 := (World.keptBut_refl w (fun p => ∃ b f, p = MemPlace.cell b f /\ (C.w0.heap.size <= b \/ C.may b f))).2.2 i hi
         rw [h1]; exact h2⟩
     (fun o ho e es' hno => by
       rw [hlo o ho] at hno |-
       have hno : some (Ob.row 3 (row1 cI (Ze l))) = some (Ob.row e es') := hno
       injection hno with hno
       injection hno with h1 h2
       subst h1
       subst h2
       rw [hvv]
       have how2 : Ow Tryz.prog w' gh.S (.row false 3 (row1 cI (Ze l))) (.slice (some ⟨g, 0, none⟩) l.length c) (fun k => (Value.slice (some ⟨g, 0, none⟩) l.length c).ownBlock = some k \/ ∃ i j d, cellAt (row1 cI (Ze l)) i j = some d /\ (fun _ => False) k) := by
         refine Ow.row ((Ze l).map (Value.int .i64)) (fun _ _ _ => False) ?_ ?_ ?_ ?_ (fun i j i' j' d d' k _ _ h => h.elim) (fun i j d k _ h => h.elim)
         · rw [zho, zW, Zn]; exact hgr
         · intro q hq; simp [row1] at hq; obtain ⟨z, _, rfl⟩ := hq; simp [zho]
         · intro q hq; simp at hq; obtain ⟨z, _, rfl⟩ := hq; rfl
         · intro i j d hd
           have hil : i < (Ze l).length := by have := yt hd; rwa [zW] at this
           have hj := xq (n := 1) hd (fun q hq => by simp [row1] at hq; obtain ⟨z, _, rfl⟩ := hq; rfl)
           obtain rfl : j = 0 := by omega
           unfold cellAt at hd
           rw [zbw cI _ hil] at hd
           simp at hd
           subst hd
           have e1 : ((Ze l).map (Value.int .i64)).getD (i * szT Tryz.prog 3 + 0) undef = .int .i64 (Ze l)[i] := by
             rw [zho, Nat.mul_one, Nat.add_zero]; simp [List.getD, hil]
           rw [e1]
           exact Ow.sc rfl
       exact how2.congr (fun k => ⟨fun h => h.elim (fun h => by injection h with h; exact h.symm) (fun ⟨_, _, _, _, h⟩ => h.elim), fun h => Or.inl (by rw [h]; rfl)⟩))
     (fun o ho k hk => Or.inl ⟨2000, by simp, by rw [hk]; exact hgF⟩)
     (fun o o' k ho ho' _ _ => (hlo o ho).trans (hlo o' ho').symm)
     (fun k hk => hk.elim) (fun o k ho hk hk' => hk')
   subst hw'
   exact ⟨[], [], st', _, gh', fun _ _ _ => False, rfl, ⟨rfl, rfl, trivial⟩, hres _ _, hr'.less (fun k hk => (hnone k hk).elim)⟩
open Go.RowKit
open Nat (reduceAdd reduceMul)
theorem ziu (nodes : List NodeD) (k : Int) (hn : nodes.length <= 1048576) (hk : ∀ x ∈ nodes, x.kids.length <= 1048576) : zB Tryz.prog 133 [.ro (.imm 83 (rows (zg true) nodes)), .ro (.sc (.int .i64 k))] (fun rs st => rs = [(false, [cI (yJ nodes k)])]) := by
 refine zn (fn := Tryz.f133) (c := Tryz.f133.body.getD .skip) (res := [.tm 4]) (n := 17) ze (by kernel_rfl) (by rfl) (by kernel_rfl) (by rfl) (by rfl) (by simp [zq]) (fun C hpin hfull => ?_)
 have w1 : IntKind.i64.wrap ((nodes.length : Int) - 1) = (nodes.length : Int) - 1 := w64 (by omega) (by omega)
 simp +decide only [Tryz.f133, w1, hpin, go_sem, reduceAdd, reduceMul]
 refine zd (yC k 0 (nodes.length - 1)) hpin ?_
 simp +decide only [hpin, go_sem, reduceAdd, reduceMul]
 cases h0 : inI k 0 (nodes.length - 1) with
 | false =>
   have hz : yJ nodes k = 0 := by simp [yJ, h0]
   simp +decide only [hz, hpin, go_sem, reduceAdd, reduceMul]
 | true =>
   have hr := zu h0
   obtain ⟨n, rfl⟩ : ∃ n : Nat, k = n := ⟨k.toNat, by omega⟩
   have hl := yI nodes (n + 1)
   have hlt : n < (zD nodes (n + 1)).length := by omega
   have hg : (zD nodes (n + 1))[n] = yJ nodes n := by
     have := Xi nodes (show n < n + 1 by omega)
     simp only [List.getD, hlt, List.getElem?_eq_getElem, Option.getD_some] at this
     rw [this]; simp [yJ, h0, dAt]
   have hc : ((n : Int) < ((n + 1 : Nat) : Int)) = True := eq_true (by omega)
   simp +decide only [hpin, go_sem, reduceAdd, reduceMul]
   refine zd (zcO nodes n (by omega) hn hk) hpin ?_
   simp +decide only [hl, hc, yf _ _ hlt, hg, Int.natCast_nonneg, hpin, go_sem, reduceAdd, reduceMul]
inductive Reach (nodes : List NodeD) : Nat -> Nat -> Prop
 | refl (n : Nat) : Reach nodes n n
 | step {n m : Nat} {kid : Int} (h : Reach nodes n m) (hm : m < nodes.length) (hk : kid ∈ nodes[m].kids) : Reach nodes n kid.toNat
theorem Reach.trans {nodes : List NodeD} {a b c : Nat} (h : Reach nodes a b) (h' : Reach nodes b c) : Reach nodes a c := by
 induction h' with
 | refl => exact h
 | step _ hm hk ih => exact .step ih hm hk
theorem zch {nodes : List NodeD} {n : Nat} (hd : dAt nodes n ≠ 0) : ∃ h : n < nodes.length, ∀ kid ∈ nodes[n].kids, 0 <= kid /\ kid < n /\ kid.toNat < n := by
 obtain ⟨h, hh⟩ := zkq (XD nodes n hd)
 refine ⟨h, fun kid hk => ?_⟩
 obtain ⟨i, hi, rfl⟩ := List.getElem_of_mem hk
 exact hh i hi
theorem Reach.le {nodes : List NodeD} {n m : Nat} (h : Reach nodes n m) (hd : dAt nodes n ≠ 0) : m <= n := by
 induction h with
 | refl => exact Nat.le_refl _
 | @step m kid h hm hk ih =>
   obtain ⟨_, hh⟩ := zch (zax nodes ih hd)
   have := hh kid hk
   omega
theorem Reach.head {nodes : List NodeD} {n m : Nat} (h : Reach nodes n m) : n = m \/ ∃ (hn : n < nodes.length) (kid : Int), kid ∈ nodes[n].kids /\ Reach nodes kid.toNat m := by
 induction h with
 | refl => exact Or.inl rfl
 | @step m kid h hm hk ih =>
   rcases ih with rfl | ⟨hn, k2, hk2, hr⟩
   · exact Or.inr ⟨hm, kid, hk, .refl _⟩
   · exact Or.inr ⟨hn, k2, hk2, .step hr hm hk⟩
open Classical in
noncomputable def zcw (nodes : List NodeD) (n : Nat) : List Nat := (List.range (n + 1)).filter fun m => decide (Reach nodes n m)
noncomputable def xt (nodes : List NodeD) (n : Nat) : List Int := (zcw nodes n).map fun (m : Nat) => (m : Int)
theorem Zd {nodes : List NodeD} {n m : Nat} (hd : dAt nodes n ≠ 0) : m ∈ zcw nodes n ↔ Reach nodes n m := by
 unfold zcw
 simp only [List.mem_filter, List.mem_range, decide_eq_true_eq]
 exact ⟨fun h => h.2, fun h => ⟨by have := h.le hd; omega, h⟩⟩
theorem zgb (nodes : List NodeD) (n : Nat) : (zcw nodes n).Pairwise (· < ·) := List.Pairwise.filter _ List.pairwise_lt_range
theorem zbm (nodes : List NodeD) (n : Nat) : (xt nodes n).Pairwise (· < ·) := by
 unfold xt
 rw [List.pairwise_map]
 exact (zgb nodes n).imp (fun h => by omega)
theorem zbl (nodes : List NodeD) (n : Nat) : (zcw nodes n).length <= n + 1 := by
 unfold zcw
 exact Nat.le_trans (List.length_filter_le _ _) (by simp)
def ints (l : List Nat) : List Int := l.map fun (m : Nat) => (m : Int)
theorem yn (l : List Nat) : (ints l).length = l.length := by simp [ints]
theorem zks {l : List Nat} {m : Nat} : (m : Int) ∈ ints l ↔ m ∈ l := by
 unfold ints
 simp only [List.mem_map]
 exact ⟨fun ⟨a, ha, e⟩ => by have : a = m := by omega
                             rw [<- this]; exact ha, fun h => ⟨m, h, rfl⟩⟩
theorem zmN (l : List Nat) : (row1 cI (ints l)).take l.length = row1 cI (ints l) := by
 have := yL cI (ints l)
 rwa [yn] at this
theorem zoh {l : List Nat} {k : Int} (h : 0 <= k) : (ints l).contains k = l.contains k.toNat := by
 rw [Bool.eq_iff_iff]
 simp only [List.contains_iff_mem]
 have e : k = (k.toNat : Int) := by omega
 conv => lhs; rw [e]
 exact zks
theorem zmO (l : List Nat) {k : Int} (h : 0 <= k) : row1 cI (ints l) ++ [[cI k]] = row1 cI (ints (l ++ [k.toNat])) := by
 have e : (k.toNat : Int) = k := by omega
 simp [row1, ints, e]
theorem zmP (l : List Nat) {i : Nat} (h : i < l.length) : (row1 cI (ints l))[i]? = some [cI (l[i] : Int)] := by simp [row1, ints, h]
theorem zgu : ∀ {n : Nat} {l : List Nat}, l.Nodup -> (∀ x ∈ l, x < n) -> l.length <= n
 | 0, l, _, hl => by
   cases l with
   | nil => simp
   | cons x r => have := hl x List.mem_cons_self; omega
 | n + 1, l, h, hl => by
   by_cases hn : n ∈ l
   · have h1 := zgu (n := n) (l := l.erase n) (h.erase n) (fun x hx => by
       have := h.mem_erase_iff.1 hx
       have h2 := hl x this.2
       have h3 := this.1
       omega)
     rw [List.length_erase_of_mem hn] at h1
     omega
   · have := zgu (n := n) h (fun x hx => by
       have h2 := hl x hx
       have h3 : x ≠ n := fun e => hn (e ▸ hx)
       omega)
     omega
theorem zkl {l : List Nat} {n : Nat} (h : l.Nodup) (hl : ∀ x ∈ l, x <= n) : l.length <= n + 1 := zgu h (fun x hx => by have := hl x hx; omega)
structure Work (nodes : List NodeD) (n : Nat) (l : List Nat) (i : Nat) : Prop where
 nodup : l.Nodup
 reach : ∀ x ∈ l, Reach nodes n x
 root : n ∈ l
 done : ∀ p (hp : p < l.length), p < i -> ∀ (hl : l[p] < nodes.length), ∀ kid ∈ nodes[l[p]].kids, kid.toNat ∈ l
 le : i <= l.length
theorem zdj (nodes : List NodeD) (n : Nat) (hd : dAt nodes n ≠ 0) (hn : nodes.length <= 1048576) (hk : ∀ x ∈ nodes, x.kids.length <= 1048576) : zB Tryz.prog 80 [.ro (.imm 83 (rows (zg true) nodes)), .ro (.sc (.int .i64 n))] (fun rs st => rs = [(false, [.row false 3 (row1 cI (xt nodes n))])]) := by
 refine zt (fn := Tryz.f80) (c := Tryz.f80.body.getD .skip) (res := [.tm 4]) (n := 42) ze (by kernel_rfl) (by rfl) (by kernel_rfl) (by rfl) (by rfl) (by simp [zq]) (fun uf ub C hpin hpin2 hfull => ?_)
 simp only [Tryz.f80, Option.getD_some]
 obtain ⟨hnl, _⟩ := zch hd
 refine Tri.step ze ?_
 simp +decide only [hpin, go_sem, reduceAdd, reduceMul]
 refine Tri.step ze ?_
 simp +decide only [hpin, go_sem, reduceAdd, reduceMul]
 refine Tri.step ze ?_
 simp +decide only [hpin, go_sem, reduceAdd, reduceMul]
 have e1 : row1 cI (ints [n]) = [[cI n]] := rfl
 refine Tri.loop (ι := List Nat × Nat) (fun q => Work nodes n q.1 q.2) (fun q => ⟨42, [(0, .imm 83 (rows (zg true) nodes)), (1, vI n), (5, .ref 5 [] q.1.length), (6, vI q.2)], [(5, .row 3 (row1 cI (ints q.1)))]⟩) (fun q => n + 1 - q.2) ([n], 0) ⟨by simp, fun x hx => by simp at hx; subst hx; exact .refl _, by simp, fun p hp hp2 => by omega, by simp⟩ ?_ ?_
 · refine Ent.weak ?_ ?_ ?_ ?_ <;> simp +decide [subT, subB, zl, zk, zo, St.get, look, vI, vB, vS, cI, cS, cB, zg, roI, ints, row1]
 · rintro ⟨l, i⟩ hW
   simp only at hW |-
   have hle : ∀ x ∈ l, x <= n := fun x hx => (hW.reach x hx).le hd
   have hll := zkl hW.nodup hle
   refine zf ze _ ?_
   by_cases h' : i < l.length
   · have e : ((i : Int) < (l.length : Int)) = True := by simp [h']
     have hli := hle l[i] (List.getElem_mem h')
     have hli2 : l[i] < nodes.length := by omega
     obtain ⟨_, hkid⟩ := zch (zax nodes hli hd)
     have hc1 : ((l[i] : Int) < (nodes.length : Int)) = True := eq_true (by omega)
     have hkx := hk nodes[l[i]] (List.getElem_mem hli2)
     generalize hx : nodes[l[i]] = x at hkid hkx
     simp +decide only [e, hc1, h', yn, zmP l h', zi _ _ hli2, hx, zg, Int.natCast_nonneg, vB, vI, hpin, go_sem, reduceAdd, reduceMul]
     refine Tri.loop (ι := List Nat × Nat) (fun q => q.2 <= x.kids.length /\ Work nodes n q.1 i /\ l <+: q.1 /\ ∀ j (hj : j < x.kids.length), j < q.2 -> x.kids[j].toNat ∈ q.1) (fun q => ⟨42, [(0, .imm 83 (rows (zg true) nodes)), (1, vI n), (5, .ref 5 [] q.1.length), (6, vI i), (24, roI x.kids), (25, vI x.kids.length), (26, vI q.2)], [(5, .row 3 (row1 cI (ints q.1)))]⟩) (fun q => x.kids.length - q.2) (l, 0) ⟨by simp, hW, List.prefix_refl _, fun j hj h0 => by omega⟩ ?_ ?_
     · refine Ent.weak ?_ ?_ ?_ ?_ <;> simp +decide [subT, subB, zl, zk, zo, St.get, look, vI, vB, vS, cI, cS, cB, zg, roI]
     · rintro ⟨m, j⟩ ⟨hj, hV, hpre, hin⟩
       simp only at hj hV hpre hin |-
       have hle2 : ∀ x ∈ m, x <= n := fun x hx => (hV.reach x hx).le hd
       have hml := zkl hV.nodup hle2
       refine zf ze _ ?_
       have hmi : ∀ (h : i < m.length), m[i] = l[i] := fun h => by
         obtain ⟨t, rfl⟩ := hpre
         rw [List.getElem_append_left h']
       have hlm : l.length <= m.length := hpre.length_le
       by_cases hj' : j < x.kids.length
       · have e2 : ((j : Int) < (x.kids.length : Int)) = True := by simp [hj']
         obtain ⟨q0, q1, q2⟩ := hkid x.kids[j] (List.getElem_mem hj')
         simp +decide only [e2, zr _ _ hj', yn, Int.natCast_nonneg, vB, vI, hpin, go_sem, reduceAdd, reduceMul]
         refine zd (zcI (ints m) x.kids[j] (by rw [yn]; omega)) hpin ?_
         simp +decide only [yn, zmN, hpin, go_sem, reduceAdd, reduceMul]
         rw [zoh q0]
         cases hc : m.contains x.kids[j].toNat with
         | true =>
           simp +decide only [hc, hpin, go_sem, reduceAdd, reduceMul]
           refine ⟨(m, j + 1), ⟨hj', hV, hpre, fun a ha ha2 => ?_⟩, by simp only; omega, Ent.weak ?_ ?_ ?_ ?_⟩
           · by_cases ea : a = j
             · subst ea; simpa using hc
             · exact hin a ha (by omega)
           all_goals simp +decide [subT, subB, zl, zk, zo, St.get, look, vI, vB, vS, cI, cS, cB, zg, roI, w64s (n := x.kids.length) hj' (by omega)]
         | false =>
           have hb1 : m.length + 1 <= 140737488355328 := by omega
           have hb2 : (m.length + 1) * 8 <= 140737488355328 := by omega
           have hsn := zmO m q0
           simp +decide only [hc, yn, hb1, hb2, hpin, go_sem, reduceAdd, reduceMul]
           have hnm : x.kids[j].toNat ∉ m := by simpa using hc
           refine ⟨(m ++ [x.kids[j].toNat], j + 1), ⟨hj', ⟨?_, ?_, ?_, ?_, ?_⟩, hpre.trans (List.prefix_append _ _), fun a ha ha2 => ?_⟩, by simp only; omega, Ent.weak ?_ ?_ ?_ ?_⟩
           · rw [List.nodup_append]
             exact ⟨hV.nodup, by simp, fun a ha b hb => by simp at hb; subst hb; exact fun e => hnm (e ▸ ha)⟩
           · intro a ha
             rcases List.mem_append.1 ha with ha | ha
             · exact hV.reach a ha
             · simp at ha; subst ha
               exact .step (hW.reach l[i] (List.getElem_mem h')) hli2 (by rw [hx]; exact List.getElem_mem hj')
           · exact List.mem_append_left _ hV.root
           · intro p hp hp2 hl kid hkk
             have hpm : p < m.length := by omega
             rw [List.getElem_append_left hpm] at hl
             have e5 : (m ++ [x.kids[j].toNat])[p] = m[p] := List.getElem_append_left hpm
             simp only [e5] at hkk
             exact List.mem_append_left _ (hV.done p hpm hp2 hl kid hkk)
           · simp; omega
           · by_cases ea : a = j
             · subst ea; simp
             · exact List.mem_append_left _ (hin a ha (by omega))
           all_goals simp +decide [subT, subB, zl, zk, zo, St.get, look, vI, vB, vS, cI, cS, cB, zg, roI, w64s (n := x.kids.length) hj' (by omega), <- hsn, row1, ints, Int.max_eq_left q0]
       · have hjl : j = x.kids.length := by omega
         subst hjl
         have e2 : ((x.kids.length : Int) < (x.kids.length : Int)) = False := by simp
         simp +decide only [e2, vB, vI, hpin, go_sem, reduceAdd, reduceMul]
         refine ⟨(m, i + 1), ⟨hV.nodup, hV.reach, hV.root, fun p hp hp2 hl kid hkk => ?_, by simp only; omega⟩, by simp only; omega, Ent.weak ?_ ?_ ?_ ?_⟩
         · by_cases ep : p = i
           · subst ep
             simp only [hmi hp] at hl hkk
             rw [hx] at hkk
             obtain ⟨a, ha, rfl⟩ := List.getElem_of_mem hkk
             exact hin a ha ha
           · exact hV.done p hp (by omega) hl kid hkk
         all_goals simp +decide [subT, subB, zl, zk, zo, St.get, look, vI, vB, vS, cI, cS, cB, zg, roI, w64s (n := l.length) h' (by omega)]
   · have hil : i = l.length := by have := hW.le; omega
     subst hil
     have e : ((l.length : Int) < (l.length : Int)) = False := by simp
     have hs : Ze (ints l) = xt nodes n := by
       refine zma ?_ (zbm nodes n) (fun z => ?_)
       · unfold ints
         exact List.Pairwise.map _ (fun a b hab h => hab (by omega)) hW.nodup
       · have key : ∀ m, Reach nodes n m -> m ∈ l := fun m hm => by
           induction hm with
           | refl => exact hW.root
           | @step m kid h hm hk ih =>
             obtain ⟨p, hp, rfl⟩ := List.getElem_of_mem ih
             exact hW.done p hp hp hm kid hk
         unfold ints xt
         simp only [List.mem_map]
         exact ⟨fun ⟨m, hm, he⟩ => ⟨m, (Zd hd).2 (hW.reach m hm), he⟩, fun ⟨m, hm, he⟩ => ⟨m, key m ((Zd hd).1 hm), he⟩⟩
     have hul : (xt nodes n).length = l.length := by rw [<- hs, Zn, yn]
     simp +decide only [e, vB, vI, hpin, go_sem, reduceAdd, reduceMul]
     refine Tri.step ze ?_
     simp +decide only [yn, hpin, go_sem, reduceAdd, reduceMul]
     refine YH (zeW (ints l) (by rw [yn]; omega)) hpin [(2000, 5)] ⟨rfl, rfl, rfl⟩ (fun uf => ⟨rfl, rfl⟩) (fun uf => ?_) ?_
     · simp +decide only [yn, go_sem, reduceAdd, reduceMul]
     simp +decide only [yn, Zn, hs, hul, hpin, go_sem, reduceAdd, reduceMul]
     refine zf ze _ ?_
     simp +decide only [yn, hul, hpin, go_sem, reduceAdd, reduceMul]
noncomputable def yU (nodes : List NodeD) (k : Int) : List Int := if yJ nodes k == 0 then [] else xt nodes k.toNat
theorem zbN {nodes : List NodeD} {k : Int} (h : (yJ nodes k == 0) = false) : ∃ n : Nat, k = n /\ n < nodes.length /\ dAt nodes n ≠ 0 := by
 have hd : yJ nodes k ≠ 0 := by simpa using h
 unfold yJ at hd
 cases h0 : inI k 0 (nodes.length - 1) with
 | false => simp [h0] at hd
 | true =>
   have hr := zu h0
   rw [h0, if_pos rfl] at hd
   exact ⟨k.toNat, by omega, by omega, hd⟩
theorem zbW {nodes : List NodeD} {k x : Int} (h : x ∈ yU nodes k) : 0 <= x /\ x.toNat < nodes.length /\ Reach nodes k.toNat x.toNat := by
 unfold yU at h
 cases hd : yJ nodes k == 0 with
 | true => simp [hd] at h
 | false =>
   obtain ⟨n, rfl, hn, hdn⟩ := zbN hd
   simp only [hd, Bool.false_eq_true, if_false, xt, List.mem_map] at h
   obtain ⟨m, hm, rfl⟩ := h
   have hr := (Zd hdn).1 hm
   have := hr.le hdn
   exact ⟨by omega, by simp; omega, by simpa using hr⟩
theorem Ya (nodes : List NodeD) (k : Int) : (yU nodes k).length <= nodes.length := by
 unfold yU
 cases hd : yJ nodes k == 0 with
 | true => simp
 | false =>
   obtain ⟨n, rfl, hn, hdn⟩ := zbN hd
   have := zbl nodes n
   simp [xt]; omega
theorem zhe (p : ProgramD) (k : Int) (hn : p.nodes.length <= 1048576) (hk : ∀ x ∈ p.nodes, x.kids.length <= 1048576) : zB Tryz.prog 147 [.ro (zb p), .ro (.sc (.int .i64 k))] (fun rs st => rs = [(false, [.row false 3 (row1 cI (yU p.nodes k))])]) := by
 refine zt (fn := Tryz.f147) (c := Tryz.f147.body.getD .skip) (res := [.tm 4]) (n := 14) ze (by kernel_rfl) (by rfl) (by kernel_rfl) (by rfl) (by rfl) (by simp [zq]) (fun uf ub C hpin hpin2 hfull => ?_)
 simp only [Tryz.f147, Option.getD_some]
 refine Tri.step ze ?_
 simp +decide only [zb, za, hpin, go_sem, reduceAdd, reduceMul]
 refine Tri.ent ?_ (Ent.frb hfull 2)
 refine Tri.step ze ?_
 simp +decide only [zb, za, hpin, go_sem, reduceAdd, reduceMul]
 refine zd (zbi p.nodes k hn hk) hpin ?_
 simp +decide only [zb, za, hpin, go_sem, reduceAdd, reduceMul]
 cases hd : yJ p.nodes k == 0 with
 | true =>
   have hu : yU p.nodes k = [] := by simp [yU, hd]
   have e0 : row1 cI ([] : List Int) = [] := rfl
   simp +decide only [hu, e0, hpin, go_sem, reduceAdd, reduceMul]
 | false =>
   obtain ⟨n, rfl, hnl, hdn⟩ := zbN hd
   have hu : yU p.nodes n = xt p.nodes n := by simp [yU, hd]
   rw [hu]
   simp +decide only [zb, za, hpin, go_sem, reduceAdd, reduceMul]
   refine zf ze _ ?_
   simp +decide only [zb, za, hpin, go_sem, reduceAdd, reduceMul]
   refine zd (zdj p.nodes n hdn hn hk) hpin ?_
   simp +decide only [zb, za, hpin, go_sem, reduceAdd, reduceMul]
open Classical in
open Classical in
open Classical in
open Classical in
open Classical in
theorem zcz {p : ProgramD} (h : zJ p <= 1048576) : p.nodes.length <= 1048576 /\ ∀ x ∈ p.nodes, x.kids.length <= 1048576 := by
 unfold zJ at h
 refine ⟨by omega, fun y hy => ?_⟩
 obtain ⟨i, hi, rfl⟩ := List.getElem_of_mem hy
 have h1 := ZB zF hi
 have h3 : p.nodes[i].kids.length <= zF p.nodes[i] := by unfold zF; omega
 omega
open Classical in
noncomputable def ofP (n : Nat) (P : Nat -> Prop) : List Bool := (List.range n).map fun m => decide (P m)
theorem zO (n : Nat) (P : Nat -> Prop) : (ofP n P).length = n := by simp [ofP]
open Classical in
theorem zaq {n : Nat} {P : Nat -> Prop} {i : Nat} (h : i < n) : (row1 cB (ofP n P))[i]? = some [cB (decide (P i))] := by simp [row1, ofP, h]
open Classical in
theorem zpl {n : Nat} {P : Nat -> Prop} {i : Nat} (h : i < n) : (row1 cB (ofP n P)).getD i [] = [cB (decide (P i))] := by simp [List.getD, zaq h]
theorem zbz {n : Nat} {P Q : Nat -> Prop} (h : ∀ m, m < n -> (P m ↔ Q m)) : ofP n P = ofP n Q := by
 unfold ofP
 apply List.map_congr_left
 intro m hm
 exact decide_eq_decide.2 (h m (List.mem_range.1 hm))
theorem zmv {n : Nat} {P : Nat -> Prop} {i : Nat} (h : i < n) : (row1 cB (ofP n P)).set i [cB true] = row1 cB (ofP n (fun m => P m \/ m = i)) := by
 apply List.ext_getElem?
 intro j
 by_cases hj : j < n
 · rw [zaq hj]
   by_cases e : i = j
   · subst e
     rw [List.getElem?_set_self (by rw [zW, zO]; exact h)]
     simp
   · rw [List.getElem?_set_ne e, zaq hj]
     congr 3
     exact decide_eq_decide.2 ⟨Or.inl, fun hh => hh.elim id (fun he => (e he.symm).elim)⟩
 · rw [List.getElem?_eq_none (by rw [List.length_set, zW, zO]; omega), List.getElem?_eq_none (by rw [zW, zO]; omega)]
theorem zmw (n : Nat) : List.replicate n [cB false] = row1 cB (ofP n (fun _ => False)) := by
 apply List.ext_getElem?
 intro j
 by_cases hj : j < n
 · rw [zaq hj]; simp [hj]
 · rw [List.getElem?_eq_none (by simp; omega), List.getElem?_eq_none (by rw [zW, zO]; omega)]
theorem zlf (nodes : List NodeD) (hn : nodes.length <= 1048576) (hk : ∀ x ∈ nodes, x.kids.length <= 1048576) (n : Nat) : dAt nodes n ≠ 0 -> ∀ P : Nat -> Prop, (∀ m, m <= n -> P m -> ∀ q, Reach nodes m q -> P q) ->
   SoundAt Tryz.prog 152 (fun uf => zq 0 [.ro (.imm 83 (rows (zg true) nodes)), .ro (.sc (.int .i64 n)), .ro (.ref 2000 [] nodes.length)]) [(2000, .row 4 (row1 cB (ofP nodes.length P)))]
     (fun rs st => rs = [] /\ yh st.ob [(2000, .row 4 (row1 cB (ofP nodes.length (fun m => P m \/ Reach nodes n m))))]) := by
 classical
 induction n using Nat.strongRecOn with
 | ind n ih =>
 intro hd P hP
 obtain ⟨hnl, hkid⟩ := zch hd
 have hkx := hk nodes[n] (List.getElem_mem hnl)
 have hrec : ∀ kid ∈ nodes[n].kids, ∀ Q : Nat -> Prop, (∀ m, m <= kid.toNat -> Q m -> ∀ q, Reach nodes m q -> Q q) ->
   SoundAt Tryz.prog 152 (fun uf => zq 0 [.ro (.imm 83 (rows (zg true) nodes)), .ro (.sc (.int .i64 kid)), .ro (.ref 2000 [] nodes.length)]) [(2000, .row 4 (row1 cB (ofP nodes.length Q)))]
     (fun rs st => rs = [] /\ yh st.ob [(2000, .row 4 (row1 cB (ofP nodes.length (fun m => Q m \/ Reach nodes kid.toNat m))))]) := fun kid hkk Q hQ => by
   obtain ⟨q0, q1, q2⟩ := hkid kid hkk
   have e : kid = (kid.toNat : Int) := by omega
   have := ih kid.toNat q2 (zax nodes (by omega) hd) Q hQ
   rw [<- e] at this
   exact this
 have hsub : ∀ kid ∈ nodes[n].kids, ∀ m, Reach nodes kid.toNat m -> Reach nodes n m := fun kid hkk m hm => (Reach.step (.refl n) hnl hkk).trans hm
 have hall : ∀ m, Reach nodes n m -> n = m \/ ∃ kid, kid ∈ nodes[n].kids /\ Reach nodes kid.toNat m := fun m hm => by
   rcases hm.head with h | ⟨_, kid, h1, h2⟩
   · exact Or.inl h
   · exact Or.inr ⟨kid, h1, h2⟩
 generalize hx : nodes[n] = x at hkx hkid hrec hsub hall
 have hc1 : ((n : Int) < (nodes.length : Int)) = True := eq_true (by omega)
 refine yx (fn := Tryz.f152) (c := Tryz.f152.body.getD .skip) (res := []) (n := 35) ze (by kernel_rfl) (by rfl) (by kernel_rfl) (by rfl) (by rfl) (by simp [zq]) (fun uf ub C hpin hpin2 hfull => ?_)
 simp +decide only [Tryz.f152, hc1, hnl, zaq hnl, Int.natCast_nonneg, zO, hpin, hpin2, go_sem, reduceAdd, reduceMul]
 by_cases hp : P n
 · have hf : ofP nodes.length (fun m => P m \/ Reach nodes n m) = ofP nodes.length P := zbz (fun m _ => ⟨fun h => h.elim id (fun h => hP n (Nat.le_refl n) hp m h), Or.inl⟩)
   have hp1 : decide (P n) = true := decide_eq_true hp
   simp +decide only [hp1, hf, zO, hpin, hpin2, go_sem, reduceAdd, reduceMul]
 have hp1 : decide (P n) = false := decide_eq_false hp
 simp +decide only [hp1, hc1, hnl, zmv hnl, Int.natCast_nonneg, zO, hpin, hpin2, go_sem, reduceAdd, reduceMul]
 let Q : Nat -> Nat -> Prop := fun i m => (P m \/ m = n) \/ ∃ j, ∃ (hj : j < x.kids.length), j < i /\ Reach nodes x.kids[j].toNat m
 refine Tri.loop (ι := Nat) (fun i => i <= x.kids.length) (fun i => ⟨35, [(0, .imm 83 (rows (zg true) nodes)), (1, vI n), (2, .ref 2000 [] nodes.length), (6, vI i)], [(2000, .row 4 (row1 cB (ofP nodes.length (Q i))))]⟩) (fun i => x.kids.length - i) 0 (by simp) ?_ ?_
 · have e0 : ofP nodes.length (Q 0) = ofP nodes.length (fun m => P m \/ m = n) := zbz (fun m _ => ⟨fun h => h.elim id (fun ⟨j, hj, h0, _⟩ => by omega), Or.inl⟩)
   have hs2 := zmv (P := P) hnl
   have hq2 := zaq (P := P) hnl
   simp only [cB] at hs2 hq2
   refine Ent.weak ?_ ?_ ?_ ?_ <;> simp +decide [subT, subB, zl, zk, zo, St.get, look, vI, vB, vS, cI, cS, cB, zg, roI, e0, hq2, hs2]
 · rintro i hi
   refine zf ze _ ?_
   by_cases h' : i < x.kids.length
   · have e : ((i : Int) < (x.kids.length : Int)) = True := by simp [h']
     have hmem := List.getElem_mem h'
     obtain ⟨q0, q1, q2⟩ := hkid _ hmem
     have hQ : ∀ m, m <= x.kids[i].toNat -> Q i m -> ∀ q, Reach nodes m q -> Q i q := fun m hm hq q hr => by
       rcases hq with (hq | hq) | ⟨j, hj, hji, hq⟩
       · exact Or.inl (Or.inl (hP m (by omega) hq q hr))
       · omega
       · exact Or.inr ⟨j, hj, hji, hq.trans hr⟩
     have hnext : ofP nodes.length (fun m => Q i m \/ Reach nodes x.kids[i].toNat m) = ofP nodes.length (Q (i + 1)) := zbz (fun m _ => by
       constructor
       · rintro ((h | ⟨j, hj, hji, h⟩) | h)
         · exact Or.inl h
         · exact Or.inr ⟨j, hj, by omega, h⟩
         · exact Or.inr ⟨i, h', by omega, h⟩
       · rintro (h | ⟨j, hj, hji, h⟩)
         · exact Or.inl (Or.inl h)
         · by_cases ej : j = i
           · subst ej; exact Or.inr h
           · exact Or.inl (Or.inr ⟨j, hj, by omega, h⟩))
     have hs := hrec x.kids[i] hmem (Q i) hQ
     rw [hnext] at hs
     simp +decide only [e, hc1, zi _ _ hnl, hx, zg, zr _ _ h', Int.natCast_nonneg, vB, vI, zO, hpin, hpin2, go_sem, reduceAdd, reduceMul]
     refine YH hs hpin [(2000, 2000)] ⟨rfl, rfl, rfl⟩ (fun uf => ⟨rfl, rfl⟩) (fun uf => ?_) ?_
     · simp +decide only [zO, hpin, hpin2, go_sem, reduceAdd, reduceMul]
     simp +decide only [zO, hpin, hpin2, go_sem, reduceAdd, reduceMul]
     refine ⟨i + 1, h', by omega, Ent.weak ?_ ?_ ?_ ?_⟩
     all_goals simp +decide [subT, subB, zl, zk, zo, St.get, look, vI, vB, vS, cI, cS, cB, zg, roI, w64s (n := x.kids.length) h' (by omega)]
   · have hil : i = x.kids.length := by omega
     subst hil
     have e : ((x.kids.length : Int) < (x.kids.length : Int)) = False := by simp
     have hf : ofP nodes.length (Q x.kids.length) = ofP nodes.length (fun m => P m \/ Reach nodes n m) := zbz (fun m _ => by
       constructor
       · rintro ((h | rfl) | ⟨j, hj, _, h⟩)
         · exact Or.inl h
         · exact Or.inr (.refl _)
         · exact Or.inr (hsub _ (List.getElem_mem hj) m h)
       · rintro (h | h)
         · exact Or.inl (Or.inl h)
         · rcases hall m h with rfl | ⟨kid, hkk, hr⟩
           · exact Or.inl (Or.inr rfl)
           · obtain ⟨j, hj, rfl⟩ := List.getElem_of_mem hkk
             exact Or.inr ⟨j, hj, hj, hr⟩)
     rw [hf]
     simp +decide only [e, hc1, zi _ _ hnl, hx, zg, Int.natCast_nonneg, vB, vI, zO, hpin, hpin2, go_sem, reduceAdd, reduceMul]
theorem zpF : elT Tryz.prog 160 = some 4 := by kernel_rfl
theorem zqY : zeroCells Tryz.prog 4 = some [.bool false] := by kernel_rfl
theorem zqS : ZQ Tryz.prog 4 = 1 := by kernel_rfl
attribute [go_sem] zpF zqY zqS
open Classical in
noncomputable def pick (P : Nat -> Prop) (i : Nat) : List Nat := (List.range i).filter fun m => decide (P m)
theorem zja (P : Nat -> Prop) (i : Nat) : (pick P i).length <= i := by
 unfold pick; exact Nat.le_trans (List.length_filter_le _ _) (by simp)
theorem zms {P : Nat -> Prop} {i : Nat} (h : P i) : pick P (i + 1) = pick P i ++ [i] := by
 unfold pick; rw [List.range_succ, List.filter_append]; simp [h]
theorem zlc {P : Nat -> Prop} {i : Nat} (h : ¬ P i) : pick P (i + 1) = pick P i := by
 unfold pick; rw [List.range_succ, List.filter_append]; simp [h]
theorem znV {P : Nat -> Prop} {i m : Nat} : m ∈ pick P i ↔ m < i /\ P m := by
 unfold pick; simp
theorem ziZ (P : Nat -> Prop) (i : Nat) : (ints (pick P i)).Pairwise (· < ·) := by
 unfold ints pick
 rw [List.pairwise_map]
 exact (List.Pairwise.filter _ List.pairwise_lt_range).imp (fun h => by omega)
theorem zik {l : List Nat} {x : Int} : x ∈ ints l ↔ 0 <= x /\ x.toNat ∈ l := by
 unfold ints
 simp only [List.mem_map]
 exact ⟨fun ⟨a, ha, e⟩ => by subst e; exact ⟨by omega, by simpa using ha⟩, fun ⟨h0, h⟩ => ⟨x.toNat, h, by omega⟩⟩
theorem zkN {nodes : List NodeD} {n : Nat} (hd : dAt nodes n ≠ 0) : ints (pick (fun m => Reach nodes n m) nodes.length) = xt nodes n := by
 refine zdB (ziZ _ _) (zbm nodes n) (fun x => ?_)
 show x ∈ ints _ ↔ x ∈ ints (zcw nodes n)
 rw [zik, zik, znV, Zd hd]
 obtain ⟨hnl, _⟩ := zch hd
 exact ⟨fun ⟨h0, _, h⟩ => ⟨h0, h⟩, fun ⟨h0, h⟩ => ⟨h0, by have := h.le hd; omega, h⟩⟩
open Classical in
theorem zhd (p : ProgramD) (k : Int) (hn : p.nodes.length <= 1048576) (hk : ∀ x ∈ p.nodes, x.kids.length <= 1048576) : zB Tryz.prog 78 [.ro (zb p), .ro (.sc (.int .i64 k))] (fun rs st => rs = [(false, [.row false 3 (row1 cI (yU p.nodes k))])]) := by
 refine zt (fn := Tryz.f78) (c := Tryz.f78.body.getD .skip) (res := [.tm 4]) (n := 39) ze (by kernel_rfl) (by rfl) (by kernel_rfl) (by rfl) (by rfl) (by simp [zq]) (fun uf ub C hpin hpin2 hfull => ?_)
 simp only [Tryz.f78, Option.getD_some]
 refine Tri.step ze ?_
 simp +decide only [zb, za, zO, hpin, go_sem, reduceAdd, reduceMul]
 refine Tri.ent ?_ (Ent.frb hfull 2)
 refine Tri.step ze ?_
 simp +decide only [zb, za, zO, hpin, go_sem, reduceAdd, reduceMul]
 refine Tri.step ze ?_
 simp +decide only [zb, za, zO, hpin, go_sem, reduceAdd, reduceMul]
 refine zd (ziu p.nodes k hn hk) hpin ?_
 simp +decide only [zb, za, zO, hpin, go_sem, reduceAdd, reduceMul]
 cases hd : yJ p.nodes k == 0 with
 | true =>
   have hu : yU p.nodes k = [] := by simp [yU, hd]
   have e0 : row1 cI ([] : List Int) = [] := rfl
   simp +decide only [hu, e0, zO, hpin, go_sem, reduceAdd, reduceMul]
 | false =>
 obtain ⟨n, rfl, hnl, hdn⟩ := zbN hd
 have hu : yU p.nodes n = xt p.nodes n := by simp [yU, hd]
 rw [hu]
 have hm1 : ((1 : Nat) : Int) * (p.nodes.length : Int) <= 281474976710656 := by omega
 have hm2 : (p.nodes.length : Int) <= 140737488355328 := by omega
 have hof := zmw p.nodes.length
 simp only [cB] at hof
 simp +decide only [zb, za, zO, hpin, go_sem, reduceAdd, reduceMul]
 refine Tri.step ze ?_
 simp +decide only [hm1, hm2, hof, Int.natCast_nonneg, za, zO, hpin, go_sem, reduceAdd, reduceMul]
 refine Tri.step ze ?_
 simp +decide only [za, zO, hpin, go_sem, reduceAdd, reduceMul]
 have hmk := zlf p.nodes hn hk n hdn (fun _ => False) (fun m _ h => h.elim)
 have e9 : (fun m => False \/ Reach p.nodes n m) = fun m => Reach p.nodes n m := by funext m; simp
 rw [e9] at hmk
 have htk : List.take p.nodes.length (row1 cB (ofP p.nodes.length (fun m => Reach p.nodes n m))) = row1 cB (ofP p.nodes.length (fun m => Reach p.nodes n m)) := by
   have := yL cB (ofP p.nodes.length (fun m => Reach p.nodes n m))
   rwa [zO] at this
 refine YH hmk hpin [(2000, 6)] ⟨rfl, rfl, rfl⟩ (fun uf => ⟨rfl, rfl⟩) (fun uf => ?_) ?_
 · simp +decide only [zO, hpin, go_sem, reduceAdd, reduceMul]
 simp +decide only [zO, hpin, go_sem, reduceAdd, reduceMul]
 refine Tri.ent ?_ (Ent.frz hfull 6)
 refine zf ze _ ?_
 simp +decide only [htk, zO, hpin, go_sem, reduceAdd, reduceMul]
 have hfin := zkN hdn
 generalize hP : (fun m => Reach p.nodes n m) = P at hfin htk |-
 refine Tri.loop (ι := Nat) (fun i => i <= p.nodes.length) (fun i => ⟨39, [(2, .ip (za true p) 0), (5, .ref 5 [] (pick P i).length), (6, .imm 4 (row1 cB (ofP p.nodes.length P))), (7, vI i)], [(5, .row 3 (row1 cI (ints (pick P i))))]⟩) (fun i => p.nodes.length - i) 0 (by simp) ?_ ?_
 · refine Ent.weak ?_ ?_ ?_ ?_ <;> simp +decide [subT, subB, zl, zk, zo, St.get, look, vI, vB, vS, cI, cS, cB, zg, roI, za, pick, ints, htk, zkD]
   all_goals rfl
 · rintro i hi
   refine zf ze _ ?_
   have hpl := zja P i
   by_cases h' : i < p.nodes.length
   · have e : ((i : Int) < (p.nodes.length : Int)) = True := by simp [h']
     have hb1 : (pick P i).length + 1 <= 140737488355328 := by omega
     have hb2 : ((pick P i).length + 1) * 8 <= 140737488355328 := by omega
     simp +decide only [e, zpl h', Int.natCast_nonneg, vB, vI, zO, hpin, go_sem, reduceAdd, reduceMul]
     by_cases hp : P i
     · have hp1 : decide (P i) = true := decide_eq_true hp
       have hpk := zms hp
       simp +decide only [hp1, yn, hb1, hb2, zO, hpin, go_sem, reduceAdd, reduceMul]
       refine ⟨i + 1, h', by omega, Ent.weak ?_ ?_ ?_ ?_⟩
       all_goals simp +decide [subT, subB, zl, zk, zo, St.get, look, vI, vB, vS, cI, cS, cB, zg, roI, hpk, ints, row1, w64s (n := p.nodes.length) h' (by omega)]
     · have hp1 : decide (P i) = false := decide_eq_false hp
       have hpk := zlc hp
       simp +decide only [hp1, zO, hpin, go_sem, reduceAdd, reduceMul]
       refine ⟨i + 1, h', by omega, Ent.weak ?_ ?_ ?_ ?_⟩
       all_goals simp +decide [subT, subB, zl, zk, zo, St.get, look, vI, vB, vS, cI, cS, cB, zg, roI, hpk, w64s (n := p.nodes.length) h' (by omega)]
   · have hil : i = p.nodes.length := by omega
     subst hil
     have e : ((p.nodes.length : Int) < (p.nodes.length : Int)) = False := by simp
     have hul : (xt p.nodes n).length = (pick P p.nodes.length).length := by rw [<- hfin, yn]
     simp +decide only [e, hfin, hul, vB, vI, zO, hpin, go_sem, reduceAdd, reduceMul]
theorem zkJ {P : Program} {C : Cx} {st : St} {K : St -> Prop} {f : FuncId} {ags : List Arg} {ι : Type} {Inv : ι -> Prop} {R : ι -> List RV} (hs : zB P f ags (fun rs _ => ∃ i, Inv i /\ rs = R i)) (hpin : ∀ o, xj o = false -> C.pin o = none) {vs : List V} {d : Option Nat}
   (h1 : (xM st vs ags).1 /\ Yz ⟨[], fun _ => undef, pvOf C, (xM st vs ags).2.ob, Zi 0 ags⟩ vs ags) (h : ∀ i, Inv i -> zdO (R i) = true /\ ev (b := ⟨K⟩) (Xk (xM st vs ags).2 d (R i))) : Xm (b := ⟨K⟩) P C st f vs d :=
 zaS hs (pin3 hpin) h1.1 h1.2 (fun rs _ ⟨i, hi, hr⟩ => by rw [hr]; exact (h i hi).1) (fun rs _ ⟨i, hi, hr⟩ => by rw [hr]; exact (h i hi).2)
inductive RB (nodes : List NodeD) : Nat -> Nat -> Prop
 | refl (n : Nat) : RB nodes n n
 | step {n m : Nat} {kid : Int} (h : RB nodes n m) (hm : m < nodes.length) (hk : kid ∈ nodes[m].kids) (hb : (nAt nodes kid).kind ≠ 20) : RB nodes n kid.toNat
theorem RB.trans {nodes : List NodeD} {a b c : Nat} (h : RB nodes a b) (h' : RB nodes b c) : RB nodes a c := by
 induction h' with
 | refl => exact h
 | step _ hm hk hb ih => exact .step ih hm hk hb
theorem RB.reach {nodes : List NodeD} {a b : Nat} (h : RB nodes a b) : Reach nodes a b := by
 induction h with
 | refl => exact .refl _
 | step _ hm hk hb ih => exact .step ih hm hk
theorem znJ (k : Int) : (zA k).2 <= 12 := by
 have key : ∀ (c : Bool) (a b : Int × Int), a.2 <= 12 -> b.2 <= 12 -> (if c = true then a else b).2 <= 12 := fun c a b ha hb => by cases c <;> simp [ha, hb]
 unfold zA
 repeat' apply key
 all_goals decide
def W (nodes : List NodeD) (n : Nat) : Nat := 13 ^ (dAt nodes n).toNat
def Ws (nodes : List NodeD) (l : List Nat) : Nat := (l.map (W nodes)).sum
structure Walk (nodes : List NodeD) (s : Nat) (l : List Nat) (i : Nat) : Prop where
 reach : ∀ x ∈ l, RB nodes s x
 root : s ∈ l
 done : ∀ p (hp : p < l.length), p < i -> ∀ (hl : l[p] < nodes.length), ∀ kid ∈ nodes[l[p]].kids, (nAt nodes kid).kind ≠ 20 -> kid.toNat ∈ l
 le : i <= l.length
 few : i + Ws nodes (l.drop i) <= W nodes s
open Classical in
def fd0 : FnD := ⟨⟨#[]⟩, [], 0, 0, 0⟩
def fAt (fns : List FnD) (j : Int) : FnD := fns.getD j.toNat fd0
theorem yE {fns : List FnD} {n : Nat} (h : n < fns.length) : fAt fns (n : Int) = fns[n] := by simp [fAt, List.getD, h]
def zbf (s : ByteArray) : List FnD -> Nat -> Int
 | [], _ => -1
 | f :: r, i => if f.name = s then (i : Int) else zbf s r (i + 1)
def xJ (fns : List FnD) (s : ByteArray) : Int := zbf s fns 0
theorem ZA (s : ByteArray) : ∀ (l : List FnD) (i : Nat), zbf s l i = -1 \/ ((i : Int) <= zbf s l i /\ zbf s l i < (i + l.length : Nat))
 | [], i => Or.inl rfl
 | f :: r, i => by
   unfold zbf
   by_cases h : f.name = s
   · rw [if_pos h]; right; simp; omega
   · rw [if_neg h]
     rcases ZA s r (i + 1) with h1 | h1
     · exact Or.inl h1
     · right; simp only [List.length_cons]; omega
theorem XA (p : ProgramD) (s : ByteArray) (hf : p.fns.length <= 1048576) : zB Tryz.prog 90 [.ro (zb p), .ro (.sc (.string s))] (fun rs st => rs = [(false, [cI (xJ p.fns s)])]) := by
 refine zt (fn := Tryz.f90) (c := Tryz.f90.body.getD .skip) (res := [.tm 4]) (n := 21) ze (by kernel_rfl) (by rfl) (by kernel_rfl) (by rfl) (by rfl) (by simp [zq]) (fun uf ub C hpin hpin2 hfull => ?_)
 simp only [Tryz.f90, Option.getD_some]
 refine Tri.step ze ?_
 simp +decide only [zb, za, hpin, go_sem, reduceAdd, reduceMul]
 refine Tri.ent ?_ (Ent.frb hfull 2)
 refine Tri.step ze ?_
 simp +decide only [zb, za, hpin, go_sem, reduceAdd, reduceMul]
 refine Tri.loop (ι := Nat) (fun i => i <= p.fns.length /\ xJ p.fns s = zbf s (p.fns.drop i) i) (fun i => ⟨21, [(1, vS s), (8, .imm 104 (rows (fnC true) p.fns)), (9, vI p.fns.length), (10, vI i)], []⟩) (fun i => p.fns.length - i) 0 ⟨by simp, rfl⟩ ?_ ?_
 · refine Ent.weak ?_ ?_ ?_ ?_ <;> simp +decide [subT, subB, zl, zk, zo, St.get, look, vI, vB, vS, cI, cS, cB, zg, roI]
 · rintro i ⟨hi, hq⟩
   refine zf ze _ ?_
   by_cases h' : i < p.fns.length
   · have e : ((i : Int) < (p.fns.length : Int)) = True := by simp [h']
     rw [List.drop_eq_getElem_cons h', zbf] at hq
     simp +decide only [e, h', zi _ _ h', fnC, Int.natCast_nonneg, vB, vI, vS, hpin, go_sem, reduceAdd, reduceMul]
     by_cases hs : p.fns[i].name = s
     · have h1 : decide (p.fns[i].name = s) = true := decide_eq_true hs
       rw [if_pos hs] at hq
       simp +decide only [h1, hq, hpin, go_sem, reduceAdd, reduceMul]
     · have h1 : decide (p.fns[i].name = s) = false := decide_eq_false hs
       rw [if_neg hs] at hq
       simp +decide only [h1, hpin, go_sem, reduceAdd, reduceMul]
       refine ⟨i + 1, ⟨h', hq⟩, by omega, Ent.weak ?_ ?_ ?_ ?_⟩
       all_goals simp +decide [subT, subB, zl, zk, zo, St.get, look, vI, vB, vS, cI, cS, cB, zg, roI, w64s (n := p.fns.length) h' (by omega)]
   · have hil : i = p.fns.length := by omega
     subst hil
     have e : ((p.fns.length : Int) < (p.fns.length : Int)) = False := by simp
     rw [List.drop_length] at hq
     have hq2 : xJ p.fns s = -1 := hq
     simp +decide only [e, hq2, vB, vI, hpin, go_sem, reduceAdd, reduceMul]
     refine zf ze _ ?_
     simp +decide only [hq2, hpin, go_sem, reduceAdd, reduceMul]
theorem zbe (p : ProgramD) (s : ByteArray) (hf : p.fns.length <= 1048576) : zB Tryz.prog 86 [.ro (zb p), .ro (.sc (.string s))] (fun rs st => rs = [(false, [cI (xJ p.fns s)])]) := by
 refine zt (fn := Tryz.f86) (c := Tryz.f86.body.getD .skip) (res := [.tm 4]) (n := 22) ze (by kernel_rfl) (by rfl) (by kernel_rfl) (by rfl) (by rfl) (by simp [zq]) (fun uf ub C hpin hpin2 hfull => ?_)
 simp only [Tryz.f86, Option.getD_some]
 refine Tri.step ze ?_
 simp +decide only [zb, za, hpin, go_sem, reduceAdd, reduceMul]
 refine Tri.ent ?_ (Ent.frb hfull 2)
 refine Tri.step ze ?_
 simp +decide only [zb, za, hpin, go_sem, reduceAdd, reduceMul]
 refine Tri.loop (ι := Nat) (fun i => i <= p.fns.length /\ xJ p.fns s = zbf s (p.fns.drop i) i) (fun i => ⟨22, [(1, vS s), (2, .ip (za true p) 0), (5, vI i)], []⟩) (fun i => p.fns.length - i) 0 ⟨by simp, rfl⟩ ?_ ?_
 · refine Ent.weak ?_ ?_ ?_ ?_ <;> simp +decide [subT, subB, zl, zk, zo, St.get, look, vI, vB, vS, cI, cS, cB, zg, roI, za]
 · rintro i ⟨hi, hq⟩
   refine zf ze _ ?_
   by_cases h' : i < p.fns.length
   · have e : ((i : Int) < (p.fns.length : Int)) = True := by simp [h']
     rw [List.drop_eq_getElem_cons h', zbf] at hq
     simp +decide only [e, h', zi _ _ h', fnC, za, Int.natCast_nonneg, vB, vI, vS, hpin, go_sem, reduceAdd, reduceMul]
     by_cases hs : p.fns[i].name = s
     · have h1 : decide (p.fns[i].name = s) = true := decide_eq_true hs
       rw [if_pos hs] at hq
       simp +decide only [h1, hq, hpin, go_sem, reduceAdd, reduceMul]
     · have h1 : decide (p.fns[i].name = s) = false := decide_eq_false hs
       rw [if_neg hs] at hq
       simp +decide only [h1, hpin, go_sem, reduceAdd, reduceMul]
       refine ⟨i + 1, ⟨h', hq⟩, by omega, Ent.weak ?_ ?_ ?_ ?_⟩
       all_goals simp +decide [subT, subB, zl, zk, zo, St.get, look, vI, vB, vS, cI, cS, cB, zg, roI, za, w64s (n := p.fns.length) h' (by omega)]
   · have hil : i = p.fns.length := by omega
     subst hil
     have e : ((p.fns.length : Int) < (p.fns.length : Int)) = False := by simp
     rw [List.drop_length] at hq
     have hq2 : xJ p.fns s = -1 := hq
     simp +decide only [e, hq2, za, vB, vI, hpin, go_sem, reduceAdd, reduceMul]
     refine zf ze _ ?_
     simp +decide only [hq2, hpin, go_sem, reduceAdd, reduceMul]
structure Zip (a b : List Int) (i k : Nat) (l : List Int) : Prop where
 ri : l.Pairwise (· < ·)
 mem : ∀ x, x ∈ l ↔ x ∈ a.take i \/ x ∈ b.take k
 la : ∀ x ∈ l, ∀ y ∈ a.drop i, x < y
 lb : ∀ x ∈ l, ∀ y ∈ b.drop k, x < y
 few : l.length <= i + k
theorem zhE {l : List Int} {x : Int} (h : l.Pairwise (· < ·)) (hx : ∀ y ∈ l, y < x) : (l ++ [x]).Pairwise (· < ·) := by
 rw [List.pairwise_append]
 exact ⟨h, by simp, fun a ha b hb => by simp at hb; subst hb; exact hx a ha⟩
theorem zhF {a : List Int} (h : a.Pairwise (· < ·)) {i : Nat} (hi : i < a.length) : ∀ y ∈ a.drop (i + 1), a[i] < y := by
 have h2 : (a.drop i).Pairwise (· < ·) := h.sublist (List.drop_sublist _ _)
 rw [List.drop_eq_getElem_cons hi] at h2
 exact (List.pairwise_cons.1 h2).1
theorem zdd {a : List Int} {i : Nat} (hi : i < a.length) : ∀ y, y ∈ a.drop i ↔ y = a[i] \/ y ∈ a.drop (i + 1) := fun y => by
 rw [List.drop_eq_getElem_cons hi, List.mem_cons]
theorem zjZ {a : List Int} {i : Nat} (hi : i < a.length) : ∀ y, y ∈ a.take (i + 1) ↔ y ∈ a.take i \/ y = a[i] := fun y => by
 rw [List.take_succ_eq_append_getElem hi, List.mem_append, List.mem_singleton]
theorem Zip.left {a b : List Int} (ha : a.Pairwise (· < ·)) (hb : b.Pairwise (· < ·)) {i k : Nat} {l : List Int} (h : Zip a b i k l) (hi : i < a.length) (hk : ∀ y ∈ b.drop k, a[i] < y) : Zip a b (i + 1) k (l ++ [a[i]]) where
 ri := zhE h.ri (fun y hy => h.la y hy _ ((zdd hi _).2 (Or.inl rfl)))
 mem := fun x => by rw [List.mem_append, List.mem_singleton, h.mem, zjZ hi]; exact ⟨fun hh => hh.elim (fun hh => hh.elim (fun h1 => Or.inl (Or.inl h1)) Or.inr) (fun h1 => Or.inl (Or.inr h1)), fun hh => hh.elim (fun hh => hh.elim (fun h1 => Or.inl (Or.inl h1)) Or.inr) (fun h1 => Or.inl (Or.inr h1))⟩
 la := fun x hx y hy => by
   rcases List.mem_append.1 hx with hx | hx
   · exact h.la x hx y ((zdd hi y).2 (Or.inr hy))
   · simp at hx; subst hx; exact zhF ha hi y hy
 lb := fun x hx y hy => by
   rcases List.mem_append.1 hx with hx | hx
   · exact h.lb x hx y hy
   · simp at hx; subst hx; exact hk y hy
 few := by have := h.few; simp; omega
theorem Zip.right {a b : List Int} (ha : a.Pairwise (· < ·)) (hb : b.Pairwise (· < ·)) {i k : Nat} {l : List Int} (h : Zip a b i k l) (hk : k < b.length) (hi : ∀ y ∈ a.drop i, b[k] < y) : Zip a b i (k + 1) (l ++ [b[k]]) where
 ri := zhE h.ri (fun y hy => h.lb y hy _ ((zdd hk _).2 (Or.inl rfl)))
 mem := fun x => by rw [List.mem_append, List.mem_singleton, h.mem, zjZ hk, or_assoc]
 la := fun x hx y hy => by
   rcases List.mem_append.1 hx with hx | hx
   · exact h.la x hx y hy
   · simp at hx; subst hx; exact hi y hy
 lb := fun x hx y hy => by
   rcases List.mem_append.1 hx with hx | hx
   · exact h.lb x hx y ((zdd hk y).2 (Or.inr hy))
   · simp at hx; subst hx; exact zhF hb hk y hy
 few := by have := h.few; simp; omega
theorem zca : ∀ l : List NodeD, sumN Zw l <= 3 * l.length + sumN zF l
 | [] => by simp [sumN]
 | x :: r => by
   have := zca r
   simp only [sumN, List.map_cons, List.sum_cons, List.length_cons] at this |-
   have e : Zw x <= 3 + zF x := by unfold Zw zF; omega
   omega
theorem zhi {α : Type} {f : α -> Nat} (h : ∀ x, f x = 2) : ∀ l : List α, sumN f l = 2 * l.length
 | [] => by simp [sumN]
 | x :: r => by
   have := zhi h r
   simp only [sumN, List.map_cons, List.sum_cons, List.length_cons] at this |-
   rw [h x]; omega
theorem zgK : ∀ l : List FnD, sumN fnN l <= 4 * l.length + 2 * sumN yc l
 | [] => by simp [sumN]
 | x :: r => by
   have := zgK r
   simp only [sumN, List.map_cons, List.sum_cons, List.length_cons] at this |-
   have e : fnN x <= 4 + 2 * yc x := by
     have h := zhi (f := yO) (fun _ => rfl) x.params
     unfold fnN yc; omega
   omega
def ZJ (x : ParamD) : Bool := ZM x.name && inI x.ty 1 4
def Xz (p : ProgramD) (f : FnD) : Bool := inI f.body 0 (p.nodes.length - 1) && (nAt p.nodes f.body).kind == 20
def zcK (p : ProgramD) (f : FnD) : Bool := if f.res == 0 then f.ret == -1 else (inI f.ret 0 (p.nodes.length - 1) && yV (nAt p.nodes f.ret).kind)
def ZW (p : ProgramD) (f : FnD) : Bool := ZM f.name && (decide ((f.params.length : Int) <= 3) && (inI f.res 0 2 && (f.params.all ZJ && (Xz p f && zcK p f))))
theorem zml (n : Int) : (bne n 0 && (bne n 1 && bne n 2)) = !inI n 0 2 := by
 simp only [inI, bne]
 by_cases h0 : n = 0
 · subst h0; rfl
 · by_cases h1 : n = 1
   · subst h1; rfl
   · by_cases h2 : n = 2
     · subst h2; rfl
     · have e0 : (n == 0) = false := by simpa using h0
       have e1 : (n == 1) = false := by simpa using h1
       have e2 : (n == 2) = false := by simpa using h2
       rw [e0, e1, e2]
       simp
       omega
theorem zbU {α : Type} {f : α -> Bool} {l : List α} {i : Nat} (h : i < l.length) (hf : f l[i] = false) : l.all f = false := by
 rw [List.all_eq_false]; exact ⟨l[i], List.getElem_mem h, by simp [hf]⟩
theorem zkF {α : Type} {f : α -> Bool} {l : List α} {i : Nat} (h : i < l.length) (hq : (l.take i).all f = true) (hf : f l[i] = true) : (l.take (i + 1)).all f = true := by
 rw [List.take_succ_eq_append_getElem h, List.all_append, hq]; simp [hf]
theorem zbv (nodes : List NodeD) (j : Nat) : (∃ x, (rows (zg true) nodes).getD j [] = zg true x) \/ (rows (zg true) nodes).getD j [] = [] := by
 by_cases h : j < nodes.length
 · exact Or.inl ⟨nodes[j], zi _ _ h⟩
 · right
   simp [List.getD, List.getElem?_eq_none (show (rows (zg true) nodes).length <= j by rw [zR]; omega)]
theorem zjx (p : ProgramD) (f : FnD) (hn : p.nodes.length <= 1048576) (hpl : f.params.length <= 1048576) : zB Tryz.prog 204 [.ro (zb p), .ro (fnW f)] (fun rs st => rs = [(false, [cB (ZW p f)])]) := by
 refine zt (fn := Tryz.f204) (c := Tryz.f204.body.getD .skip) (res := [.tm 4]) (n := 91) ze (by kernel_rfl) (by rfl) (by kernel_rfl) (by rfl) (by rfl) (by simp [zq]) (fun uf ub C hpin hpin2 hfull => ?_)
 simp only [Tryz.f204, Option.getD_some]
 have w1 : IntKind.i64.wrap ((p.nodes.length : Int) - 1) = (p.nodes.length : Int) - 1 := w64 (by omega) (by omega)
 refine Tri.step ze ?_
 simp +decide only [zb, za, fnW, zb, za, fnW, fnC, hpin, go_sem, reduceAdd, reduceMul]
 refine Tri.ent ?_ (Ent.frb hfull 2)
 refine Tri.ent ?_ (Ent.frb hfull 3)
 unfold ZW
 cases h0 : ZM f.name with
 | false =>
   refine Tri.step ze ?_
   simp +decide only [zb, za, fnW, fnC, hpin, go_sem, reduceAdd, reduceMul]
   refine zd (xf f.name) hpin ?_
   simp +decide only [h0, zb, za, fnW, fnC, hpin, go_sem, reduceAdd, reduceMul]
 | true =>
 by_cases h1 : (f.params.length : Int) <= 3
 case neg =>
   have c1 : ((3 : Int) < (f.params.length : Int)) = True := eq_true (by omega)
   have c2 : decide ((f.params.length : Int) <= 3) = false := decide_eq_false h1
   refine Tri.step ze ?_
   simp +decide only [zb, za, fnW, fnC, hpin, go_sem, reduceAdd, reduceMul]
   refine zd (xf f.name) hpin ?_
   simp +decide only [h0, c1, c2, gt_iff_lt, zb, za, fnW, fnC, hpin, go_sem, reduceAdd, reduceMul]
 have c1 : ((3 : Int) < (f.params.length : Int)) = False := eq_false (by omega)
 have c2 : decide ((f.params.length : Int) <= 3) = true := decide_eq_true h1
 have h3 := zml f.res
 cases h2 : inI f.res 0 2 with
 | false =>
   rw [h2] at h3
   have z0 : (f.res == 0) = false := by cases h : f.res == 0 with | false => rfl | true => simp [bne, h] at h3
   have z1 : (f.res == 1) = false := by cases h : f.res == 1 with | false => rfl | true => simp [bne, h] at h3
   have z2 : (f.res == 2) = false := by cases h : f.res == 2 with | false => rfl | true => simp [bne, h] at h3
   refine Tri.step ze ?_
   simp +decide only [zb, za, fnW, fnC, hpin, go_sem, reduceAdd, reduceMul]
   refine zd (xf f.name) hpin ?_
   simp +decide only [h0, c1, c2, z0, z1, z2, bne, gt_iff_lt, zb, za, fnW, fnC, hpin, go_sem, reduceAdd, reduceMul]
 | true =>
 rw [h2] at h3
 refine Tri.stop ze ⟨91, [(2, .ip (za true p) 0), (3, .ip (fnC true f) 0), (4, vB false)], []⟩ ?_ ?_
 · simp +decide only [zb, za, fnW, fnC, hpin, go_sem, reduceAdd, reduceMul]
   refine zd (xf f.name) hpin ?_
   cases z0 : f.res == 0 with
   | true => simp +decide only [h0, c1, c2, z0, bne, gt_iff_lt, zb, za, fnW, fnC, hpin, go_sem, reduceAdd, reduceMul]; refine Ent.weak ?_ ?_ ?_ ?_ <;> simp +decide [subT, subB, zl, zk, zo, St.get, look, vI, vB, vS, cI, cS, cB, zg, roI, za, fnC]
   | false =>
   cases z1 : f.res == 1 with
   | true => simp +decide only [h0, c1, c2, z0, z1, bne, gt_iff_lt, zb, za, fnW, fnC, hpin, go_sem, reduceAdd, reduceMul]; refine Ent.weak ?_ ?_ ?_ ?_ <;> simp +decide [subT, subB, zl, zk, zo, St.get, look, vI, vB, vS, cI, cS, cB, zg, roI, za, fnC]
   | false =>
   have z2 : (f.res == 2) = true := by cases h : f.res == 2 with | true => rfl | false => simp [bne, z0, z1, h] at h3
   simp +decide only [h0, c1, c2, z0, z1, z2, bne, gt_iff_lt, zb, za, fnW, fnC, hpin, go_sem, reduceAdd, reduceMul]; refine Ent.weak ?_ ?_ ?_ ?_ <;> simp +decide [subT, subB, zl, zk, zo, St.get, look, vI, vB, vS, cI, cS, cB, zg, roI, za, fnC]
 simp +decide only [c2, Bool.true_and]
 refine Tri.step ze ?_
 simp +decide only [za, fnC, vB, vI, zb, za, fnW, fnC, hpin, go_sem, reduceAdd, reduceMul]
 refine Tri.loop (ι := Nat) (fun i => i <= f.params.length /\ (f.params.take i).all ZJ = true) (fun i => ⟨91, [(2, .ip (za true p) 0), (3, .ip (fnC true f) 0), (4, vB false), (33, .imm 107 (rows (zE true) f.params)), (34, vI f.params.length), (35, vI i)], []⟩) (fun i => f.params.length - i) 0 ⟨by simp, by simp⟩ ?_ ?_
 · refine Ent.weak ?_ ?_ ?_ ?_ <;> simp +decide [subT, subB, zl, zk, zo, St.get, look, vI, vB, vS, cI, cS, cB, zg, roI, za, fnC]
 · rintro i ⟨hi, hq⟩
   refine zf ze _ ?_
   by_cases h' : i < f.params.length
   · have e : ((i : Int) < (f.params.length : Int)) = True := by simp [h']
     simp +decide only [e, h', zi _ _ h', zE, Int.natCast_nonneg, vB, vI, zb, za, fnW, fnC, hpin, go_sem, reduceAdd, reduceMul]
     refine zd (xf f.params[i].name) hpin ?_
     cases g0 : ZM f.params[i].name with
     | false =>
       have hf := zbU (f := ZJ) h' (by simp only [ZJ, g0, Bool.false_and])
       simp +decide only [hf, zb, za, fnW, fnC, hpin, go_sem, reduceAdd, reduceMul]
     | true =>
     simp +decide only [zb, za, fnW, fnC, hpin, go_sem, reduceAdd, reduceMul]
     refine zd (in' f.params[i].ty 1 4) hpin ?_
     cases g1 : inI f.params[i].ty 1 4 with
     | false =>
       have hf := zbU (f := ZJ) h' (by simp only [ZJ, g1, Bool.and_false])
       simp +decide only [hf, zb, za, fnW, fnC, hpin, go_sem, reduceAdd, reduceMul]
     | true =>
     have hnx := zkF (f := ZJ) h' hq (by simp only [ZJ, g0, g1]; rfl)
     simp +decide only [zb, za, fnW, fnC, hpin, go_sem, reduceAdd, reduceMul]
     refine ⟨i + 1, ⟨h', hnx⟩, by omega, Ent.weak ?_ ?_ ?_ ?_⟩
     all_goals simp +decide [subT, subB, zl, zk, zo, St.get, look, vI, vB, vS, cI, cS, cB, zg, roI, za, fnC, w64s (n := f.params.length) h' (by omega)]
   · have hil : i = f.params.length := by omega
     subst hil
     have e : ((f.params.length : Int) < (f.params.length : Int)) = False := by simp
     rw [List.take_length] at hq
     rw [hq, Bool.true_and]
     simp +decide only [e, vB, vI, zb, za, fnW, fnC, hpin, go_sem, reduceAdd, reduceMul]
     refine Tri.step ze ?_
     simp +decide only [w1, za, fnC, zb, za, fnW, fnC, hpin, go_sem, reduceAdd, reduceMul]
     refine zd (in' f.body 0 (p.nodes.length - 1)) hpin ?_
     unfold Xz
     cases g0 : inI f.body 0 (p.nodes.length - 1) with
     | false =>
       rcases zbv p.nodes f.body.toNat with ⟨y, hy⟩ | hy
       · simp +decide only [hy, zg, zb, za, fnW, fnC, hpin, go_sem, reduceAdd, reduceMul]
       · simp +decide only [hy, zb, za, fnW, fnC, hpin, go_sem, reduceAdd, reduceMul]
     | true =>
     have hr := zu g0
     have z0 : (0 <= f.body) = True := eq_true hr.1
     have hbl : f.body.toNat < p.nodes.length := by omega
     have z1 : (f.body < (p.nodes.length : Int)) = True := eq_true (by omega)
     rw [xY hbl]
     simp +decide only [z0, z1, zi _ _ hbl, zg, bne, za, fnC, zb, za, fnW, fnC, hpin, go_sem, reduceAdd, reduceMul]
     cases g1 : p.nodes[f.body.toNat].kind == 20 with
     | false => simp +decide only [g1, zb, za, fnW, fnC, hpin, go_sem, reduceAdd, reduceMul]
     | true =>
     simp +decide only [g1, zb, za, fnW, fnC, hpin, go_sem, reduceAdd, reduceMul]
     refine Tri.step ze ?_
     unfold zcK
     cases g2 : f.res == 0 with
     | true =>
       simp +decide only [g2, za, fnC, zb, za, fnW, fnC, hpin, go_sem, reduceAdd, reduceMul]
     | false =>
       rw [if_neg (by decide)]
       simp +decide only [g2, za, fnC, zb, za, fnW, fnC, hpin, go_sem, reduceAdd, reduceMul]
       refine zf ze _ ?_
       simp +decide only [w1, za, fnC, zb, za, fnW, fnC, hpin, go_sem, reduceAdd, reduceMul]
       refine zd (in' f.ret 0 (p.nodes.length - 1)) hpin ?_
       cases g3 : inI f.ret 0 (p.nodes.length - 1) with
       | false =>
         rcases zbv p.nodes f.ret.toNat with ⟨y, hy⟩ | hy
         · simp +decide only [hy, zg, zb, za, fnW, fnC, hpin, go_sem, reduceAdd, reduceMul]
         · simp +decide only [hy, zb, za, fnW, fnC, hpin, go_sem, reduceAdd, reduceMul]
       | true =>
       have hr2 := zu g3
       have y0 : (0 <= f.ret) = True := eq_true hr2.1
       have hrl : f.ret.toNat < p.nodes.length := by omega
       have y1 : (f.ret < (p.nodes.length : Int)) = True := eq_true (by omega)
       rw [xY hrl]
       simp +decide only [y0, y1, zi _ _ hrl, zg, za, fnC, zb, za, fnW, fnC, hpin, go_sem, reduceAdd, reduceMul]
       refine zd (YO p.nodes[f.ret.toNat].kind) hpin ?_
       simp +decide only [zb, za, fnW, fnC, hpin, go_sem, reduceAdd, reduceMul]
theorem zjw (p : ProgramD) (i : Nat) (hil : i < p.fns.length) (hf : p.fns.length <= 1048576) (hn : p.nodes.length <= 1048576) (hpl : ∀ f ∈ p.fns, f.params.length <= 1048576) : zB Tryz.prog 195 [.ro (zb p), .ro (.sc (.int .i64 i))] (fun rs st => rs = [(false, [cB (ZW p p.fns[i] && xJ p.fns p.fns[i].name == (i : Int))])]) := by
 have hplx := hpl p.fns[i] (List.getElem_mem hil)
 have hns := zbe p p.fns[i].name hf
 generalize hfe : p.fns[i] = f at hplx hns
 have ci : ((i : Int) < (p.fns.length : Int)) = True := eq_true (by omega)
 refine zt (fn := Tryz.f195) (c := Tryz.f195.body.getD .skip) (res := [.tm 4]) (n := 102) ze (by kernel_rfl) (by rfl) (by kernel_rfl) (by rfl) (by rfl) (by simp [zq]) (fun uf ub C hpin hpin2 hfull => ?_)
 simp only [Tryz.f195, Option.getD_some]
 have w1 : IntKind.i64.wrap ((p.nodes.length : Int) - 1) = (p.nodes.length : Int) - 1 := w64 (by omega) (by omega)
 refine Tri.step ze ?_
 simp +decide only [zb, za, fnW, zb, za, fnW, fnC, hpin, go_sem, reduceAdd, reduceMul]
 refine Tri.ent ?_ (Ent.frb hfull 2)
 refine Tri.step ze ?_
 simp +decide only [ci, zi _ _ hil, hfe, fnC, zb, za, Int.natCast_nonneg, zb, za, fnW, fnC, hpin, go_sem, reduceAdd, reduceMul]
 refine Tri.ent ?_ (Ent.frb hfull 5)
 refine Tri.step ze ?_
 simp +decide only [fnC, za, zb, za, fnW, fnC, hpin, go_sem, reduceAdd, reduceMul]
 refine zd (Zx f.name) hpin ?_
 unfold ZW
 cases h0 : ZM f.name with
 | false => simp +decide only [zb, za, fnW, fnC, hpin, go_sem, reduceAdd, reduceMul]
 | true =>
 simp +decide only [fnC, za, zb, zb, za, fnW, fnC, hpin, go_sem, reduceAdd, reduceMul]
 refine zd hns hpin ?_
 cases ha : xJ p.fns f.name == (i : Int) with
 | false => simp +decide only [ha, bne, zb, za, fnW, fnC, hpin, go_sem, reduceAdd, reduceMul]
 | true =>
 by_cases h1 : (f.params.length : Int) <= 3
 case neg =>
   have c1 : ((3 : Int) < (f.params.length : Int)) = True := eq_true (by omega)
   have c2 : decide ((f.params.length : Int) <= 3) = false := decide_eq_false h1
   simp +decide only [ha, bne, c1, c2, gt_iff_lt, zb, za, fnW, fnC, hpin, go_sem, reduceAdd, reduceMul]
 have c1 : ((3 : Int) < (f.params.length : Int)) = False := eq_false (by omega)
 have c2 : decide ((f.params.length : Int) <= 3) = true := decide_eq_true h1
 simp +decide only [ha, bne, c1, c2, gt_iff_lt, zb, za, fnW, fnC, hpin, go_sem, reduceAdd, reduceMul]
 refine zd (yC f.res 0 2) hpin ?_
 cases h2 : inI f.res 0 2 with
 | false => simp +decide only [zb, za, fnW, fnC, hpin, go_sem, reduceAdd, reduceMul]
 | true =>
 simp +decide only [zb, za, fnW, fnC, hpin, go_sem, reduceAdd, reduceMul]
 refine Tri.step ze ?_
 simp +decide only [za, fnC, zb, za, fnW, fnC, hpin, go_sem, reduceAdd, reduceMul]
 refine Tri.loop (ι := Nat) (fun i => i <= f.params.length /\ (f.params.take i).all ZJ = true) (fun i => ⟨102, [(2, .ip (za true p) 0), (4, vB false), (5, .ip (fnC true f) 0), (6, vI i)], []⟩) (fun i => f.params.length - i) 0 ⟨by simp, by simp⟩ ?_ ?_
 · refine Ent.weak ?_ ?_ ?_ ?_ <;> simp +decide [subT, subB, zl, zk, zo, St.get, look, vI, vB, vS, cI, cS, cB, zg, roI, za, fnC]
 · rintro i ⟨hi, hq⟩
   refine zf ze _ ?_
   by_cases h' : i < f.params.length
   · have e : ((i : Int) < (f.params.length : Int)) = True := by simp [h']
     simp +decide only [e, h', zi _ _ h', zE, fnC, za, Int.natCast_nonneg, vB, vI, zb, za, fnW, fnC, hpin, go_sem, reduceAdd, reduceMul]
     refine zd (Zx f.params[i].name) hpin ?_
     cases g0 : ZM f.params[i].name with
     | false =>
       have hf := zbU (f := ZJ) h' (by simp only [ZJ, g0, Bool.false_and])
       simp +decide only [hf, zb, za, fnW, fnC, hpin, go_sem, reduceAdd, reduceMul]
     | true =>
     simp +decide only [e, h', zi _ _ h', zE, fnC, za, Int.natCast_nonneg, vB, vI, zb, za, fnW, fnC, hpin, go_sem, reduceAdd, reduceMul]
     refine zd (yC f.params[i].ty 1 4) hpin ?_
     cases g1 : inI f.params[i].ty 1 4 with
     | false =>
       have hf := zbU (f := ZJ) h' (by simp only [ZJ, g1, Bool.and_false])
       simp +decide only [hf, zb, za, fnW, fnC, hpin, go_sem, reduceAdd, reduceMul]
     | true =>
     have hnx := zkF (f := ZJ) h' hq (by simp only [ZJ, g0, g1]; rfl)
     simp +decide only [zb, za, fnW, fnC, hpin, go_sem, reduceAdd, reduceMul]
     refine ⟨i + 1, ⟨h', hnx⟩, by omega, Ent.weak ?_ ?_ ?_ ?_⟩
     all_goals simp +decide [subT, subB, zl, zk, zo, St.get, look, vI, vB, vS, cI, cS, cB, zg, roI, za, fnC, w64s (n := f.params.length) h' (by omega)]
   · have hil : i = f.params.length := by omega
     subst hil
     have e : ((f.params.length : Int) < (f.params.length : Int)) = False := by simp
     rw [List.take_length] at hq
     rw [hq, Bool.true_and]
     simp +decide only [e, fnC, za, vB, vI, zb, za, fnW, fnC, hpin, go_sem, reduceAdd, reduceMul]
     refine Tri.step ze ?_
     simp +decide only [w1, za, fnC, zb, za, fnW, fnC, hpin, go_sem, reduceAdd, reduceMul]
     refine zd (yC f.body 0 (p.nodes.length - 1)) hpin ?_
     unfold Xz
     cases g0 : inI f.body 0 (p.nodes.length - 1) with
     | false =>
       rcases zbv p.nodes f.body.toNat with ⟨y, hy⟩ | hy
       · simp +decide only [hy, zg, zb, za, fnW, fnC, hpin, go_sem, reduceAdd, reduceMul]
       · simp +decide only [hy, zb, za, fnW, fnC, hpin, go_sem, reduceAdd, reduceMul]
     | true =>
     have hr := zu g0
     have z0 : (0 <= f.body) = True := eq_true hr.1
     have hbl : f.body.toNat < p.nodes.length := by omega
     have z1 : (f.body < (p.nodes.length : Int)) = True := eq_true (by omega)
     rw [xY hbl]
     simp +decide only [z0, z1, zi _ _ hbl, zg, bne, za, fnC, zb, za, fnW, fnC, hpin, go_sem, reduceAdd, reduceMul]
     cases g1 : p.nodes[f.body.toNat].kind == 20 with
     | false => simp +decide only [g1, zb, za, fnW, fnC, hpin, go_sem, reduceAdd, reduceMul]
     | true =>
     simp +decide only [g1, zb, za, fnW, fnC, hpin, go_sem, reduceAdd, reduceMul]
     refine Tri.step ze ?_
     unfold zcK
     cases g2 : f.res == 0 with
     | true =>
       simp +decide only [g2, c2, za, fnC, zb, za, fnW, fnC, hpin, go_sem, reduceAdd, reduceMul]
     | false =>
       rw [if_neg (by decide)]
       simp +decide only [g2, za, fnC, zb, za, fnW, fnC, hpin, go_sem, reduceAdd, reduceMul]
       refine zf ze _ ?_
       simp +decide only [w1, za, fnC, zb, za, fnW, fnC, hpin, go_sem, reduceAdd, reduceMul]
       refine zd (yC f.ret 0 (p.nodes.length - 1)) hpin ?_
       cases g3 : inI f.ret 0 (p.nodes.length - 1) with
       | false =>
         rcases zbv p.nodes f.ret.toNat with ⟨y, hy⟩ | hy
         · simp +decide only [hy, zg, zb, za, fnW, fnC, hpin, go_sem, reduceAdd, reduceMul]
         · simp +decide only [hy, zb, za, fnW, fnC, hpin, go_sem, reduceAdd, reduceMul]
       | true =>
       have hr2 := zu g3
       have y0 : (0 <= f.ret) = True := eq_true hr2.1
       have hrl : f.ret.toNat < p.nodes.length := by omega
       have y1 : (f.ret < (p.nodes.length : Int)) = True := eq_true (by omega)
       rw [xY hrl]
       simp +decide only [y0, y1, zi _ _ hrl, zg, za, fnC, zb, za, fnW, fnC, hpin, go_sem, reduceAdd, reduceMul]
       refine zd (YN p.nodes[f.ret.toNat].kind) hpin ?_
       simp +decide only [c2, zb, za, fnW, fnC, hpin, go_sem, reduceAdd, reduceMul]
def tabI (n : Nat) (f : Nat -> Int) : List Int := (List.range n).map f
theorem zj (n : Nat) (f : Nat -> Int) : (tabI n f).length = n := by simp [tabI]
theorem xw {n : Nat} {f : Nat -> Int} {i : Nat} (h : i < n) : (row1 cI (tabI n f))[i]? = some [cI (f i)] := by simp [row1, tabI, h]
theorem zka {n : Nat} {f : Nat -> Int} {i : Nat} (h : i < n) : (row1 cI (tabI n f)).getD i [] = [cI (f i)] := by simp [List.getD, xw h]
theorem Yi {n : Nat} {f g : Nat -> Int} (h : ∀ m, m < n -> f m = g m) : tabI n f = tabI n g := by
 unfold tabI
 apply List.map_congr_left
 intro m hm
 exact h m (List.mem_range.1 hm)
theorem zbq {n : Nat} {f : Nat -> Int} {i : Nat} (h : i < n) (v : Int) : (row1 cI (tabI n f)).set i [cI v] = row1 cI (tabI n (fun m => if m = i then v else f m)) := by
 apply List.ext_getElem?
 intro j
 by_cases hj : j < n
 · rw [xw hj]
   by_cases e : i = j
   · subst e
     rw [List.getElem?_set_self (by rw [zW, zj]; exact h)]
     simp
   · rw [List.getElem?_set_ne e, xw hj, if_neg (fun he => e he.symm)]
 · rw [List.getElem?_eq_none (by rw [List.length_set, zW, zj]; omega), List.getElem?_eq_none (by rw [zW, zj]; omega)]
theorem zhl (n : Nat) : List.replicate n [cI 0] = row1 cI (tabI n (fun _ => 0)) := by
 apply List.ext_getElem?
 intro j
 by_cases hj : j < n
 · rw [xw hj]; simp [hj]
 · rw [List.getElem?_eq_none (by simp; omega), List.getElem?_eq_none (by rw [zW, zj]; omega)]
def cntK (nodes : List NodeD) (i m : Nat) : Nat := sumN (fun x => x.kids.count (m : Int)) (nodes.take i)
def cntF (nodes : List NodeD) (x : NodeD) (i j : Nat) : Nat -> Int := fun m => (cntK nodes i m : Int) + ((x.kids.take j).count (m : Int) : Int)
theorem ziy {nodes : List NodeD} {i : Nat} (h : i < nodes.length) (m : Nat) : cntK nodes (i + 1) m = cntK nodes i m + nodes[i].kids.count (m : Int) := by
 unfold cntK sumN
 rw [List.take_succ_eq_append_getElem h, List.map_append, List.sum_append]
 simp only [List.map_cons, List.map_nil, List.sum_cons, List.sum_nil, Nat.add_zero]
theorem zeF {nodes : List NodeD} (hd : ∀ x ∈ nodes, x.kids.Nodup) (m : Nat) : ∀ i, i <= nodes.length -> cntK nodes i m <= i
 | 0, _ => by simp [cntK, sumN]
 | i + 1, h => by
   rw [ziy h]
   have h1 := zeF hd m i (by omega)
   have h2 := List.nodup_iff_count.1 (hd nodes[i] (List.getElem_mem h)) (m : Int)
   omega
theorem ziz (nodes : List NodeD) (x : NodeD) (i m : Nat) : cntF nodes x i 0 m = cntK nodes i m := by simp [cntF]
theorem ziB {nodes : List NodeD} {i : Nat} (h : i < nodes.length) (m : Nat) : cntF nodes nodes[i] i nodes[i].kids.length m = cntK nodes (i + 1) m := by
 unfold cntF; rw [List.take_length, ziy h]; simp
theorem ziA {nodes : List NodeD} {x : NodeD} {i j : Nat} (h : j < x.kids.length) (h0 : 0 <= x.kids[j]) : (fun m => if m = x.kids[j].toNat then cntF nodes x i j x.kids[j].toNat + 1 else cntF nodes x i j m) = cntF nodes x i (j + 1) := by
 funext m
 unfold cntF
 rw [List.take_succ_eq_append_getElem h, List.count_append]
 by_cases e : m = x.kids[j].toNat
 · subst e
   have e2 : ((x.kids[j].toNat : Nat) : Int) = x.kids[j] := by omega
   rw [if_pos rfl, e2]
   simp; omega
 · rw [if_neg e]
   have e2 : (x.kids[j] == (m : Int)) = false := by
     apply Bool.eq_false_iff.2; intro hh; have := eq_of_beq hh; omega
   simp [List.count_cons, e2]
theorem zfU {nodes : List NodeD} {x : NodeD} (hd : ∀ x ∈ nodes, x.kids.Nodup) (hx : x.kids.Nodup) {i : Nat} (hi : i <= nodes.length) (j m : Nat) : 0 <= cntF nodes x i j m /\ cntF nodes x i j m <= (i : Int) + 1 := by
 have h1 := zeF hd m i hi
 have h2 := List.nodup_iff_count.1 (hx.sublist (List.take_sublist j x.kids)) (m : Int)
 unfold cntF
 omega
def rts (f : FnD) : List Int := [f.body, f.ret]
def rtsP (f : FnD) (b : Nat) : List Int := ((rts f).take b).filter (fun k => decide (0 <= k))
def allR (fns : List FnD) : List Int := fns.flatMap (fun f => rtsP f 2)
theorem ziH {fns : List FnD} {i : Nat} (h : i < fns.length) : allR (fns.take (i + 1)) = allR (fns.take i) ++ rtsP fns[i] 2 := by
 unfold allR
 rw [List.take_succ_eq_append_getElem h, List.flatMap_append]
 simp
theorem zkG {fns : List FnD} {i : Nat} (h : i < fns.length) (b : Nat) : (allR (fns.take i) ++ rtsP fns[i] b).Sublist (allR fns) := by
 have e : allR fns = allR (fns.take i) ++ (rtsP fns[i] 2 ++ allR (fns.drop (i + 1))) := by
   conv => lhs; rw [<- List.take_append_drop i fns, List.drop_eq_getElem_cons h]
   unfold allR
   rw [List.flatMap_append, List.flatMap_cons]
 rw [e]
 refine (List.Sublist.refl _).append (List.Sublist.trans ?_ (List.sublist_append_left _ _))
 unfold rtsP
 refine List.Sublist.filter _ ?_
 have : (rts fns[i]).take 2 = rts fns[i] := rfl
 rw [this]
 exact List.take_sublist _ _
theorem zhC (f : FnD) {b : Nat} (h : b < (rts f).length) (hk : (rts f)[b] < 0) : rtsP f (b + 1) = rtsP f b := by
 unfold rtsP
 rw [List.take_succ_eq_append_getElem h, List.filter_append]
 have : ¬ (0 <= (rts f)[b]) := by omega
 simp [this]
theorem zhB (f : FnD) {b : Nat} (h : b < (rts f).length) (hk : 0 <= (rts f)[b]) : rtsP f (b + 1) = rtsP f b ++ [(rts f)[b]] := by
 unfold rtsP
 rw [List.take_succ_eq_append_getElem h, List.filter_append]
 simp [hk]
theorem ziV (f : FnD) (b : Nat) : (rtsP f b).length <= 2 := by
 unfold rtsP
 refine Nat.le_trans (List.length_filter_le _ _) ?_
 rw [List.length_take]; simp [rts]; omega
theorem zeN : ∀ fns : List FnD, (allR fns).length <= 2 * fns.length
 | [] => by simp [allR]
 | f :: r => by
   have h1 := zeN r
   have h2 := ziV f 2
   unfold allR at h1 |-
   rw [List.flatMap_cons, List.length_append, List.length_cons]
   omega
def zdL (p : ProgramD) (m : Nat) : Bool := (((cntK p.nodes p.nodes.length m : Nat) : Int) + 1000 * ((allR p.fns).count (m : Int) : Int) == 1) || (((cntK p.nodes p.nodes.length m : Nat) : Int) + 1000 * ((allR p.fns).count (m : Int) : Int) == 1000)
def xv (p : ProgramD) (i : Nat) : Bool := ZW p (fAt p.fns i) && xJ p.fns (fAt p.fns i).name == (i : Int)
def yX (p : ProgramD) : Bool := inI p.nodes.length 1 300 && (inI p.fns.length 1 8 && (!(yJ p.nodes (p.nodes.length - 1) == 0) && (zG (xv p) p.fns.length && zG (zdL p) p.nodes.length)))
theorem zjk {nodes : List NodeD} {k : Nat} (h : YV nodes k = true) : (nAt nodes k).kids.Nodup := by
 unfold YV at h
 simp only [Bool.and_eq_true, zbA] at h
 obtain ⟨_, _, _, _, _, h⟩ := h
 rw [yN] at h
 rw [List.Nodup, List.pairwise_iff_getElem]
 intro i j hi hj hij e
 have := h j hj
 simp only [kidB, Bool.and_eq_true] at this
 have h2 := this.2.1
 have hg : (nAt nodes k).kids.getD j 0 = (nAt nodes k).kids[j] := by simp [List.getD, hj]
 rw [hg, <- e] at h2
 have : (nAt nodes k).kids[i] ∈ (nAt nodes k).kids.take j := by
   rw [List.mem_take_iff_getElem]
   exact ⟨i, by omega, rfl⟩
 simp [this] at h2
structure Deep (nodes : List NodeD) : Prop where
 pos : 0 < nodes.length
 deep : ∀ n, n < nodes.length -> dAt nodes n ≠ 0
theorem zjH {nodes : List NodeD} (h : (yJ nodes (nodes.length - 1) == 0) = false) : Deep nodes := by
 obtain ⟨n, hn, hl, hd⟩ := zbN h
 exact ⟨by omega, fun m hm => zax nodes (by omega) hd⟩
theorem Deep.nodup {nodes : List NodeD} (h : Deep nodes) : ∀ x ∈ nodes, x.kids.Nodup := fun x hx => by
 obtain ⟨i, hi, rfl⟩ := List.getElem_of_mem hx
 have := zjk (XD nodes i (h.deep i hi))
 rwa [zI hi] at this
theorem Deep.kid {nodes : List NodeD} (h : Deep nodes) {i : Nat} (hi : i < nodes.length) : ∀ kid ∈ nodes[i].kids, 0 <= kid /\ kid < i /\ kid.toNat < i := (zch (h.deep i hi)).2
theorem xp {p : ProgramD} {f : FnD} (h : ZW p f = true) : (0 <= f.body /\ f.body.toNat < p.nodes.length) /\ (f.ret < 0 \/ (0 <= f.ret /\ f.ret.toNat < p.nodes.length)) := by
 simp only [ZW, Bool.and_eq_true, Xz] at h
 obtain ⟨_, _, _, _, ⟨hb, _⟩, hr⟩ := h
 have hb := zu hb
 refine ⟨⟨hb.1, by omega⟩, ?_⟩
 unfold zcK at hr
 split at hr
 · left; have := eq_of_beq hr; omega
 · simp only [Bool.and_eq_true] at hr
   have := zu hr.1
   right; omega
def metF (p : ProgramD) (R : List Int) : Nat -> Int := fun m => if (m : Int) ∈ R then -1 else (cntK p.nodes p.nodes.length m : Int)
theorem zmz (p : ProgramD) (R : List Int) {k : Int} (h0 : 0 <= k) : (fun m => if m = k.toNat then -1 else metF p R m) = metF p (R ++ [k]) := by
 funext m
 unfold metF
 by_cases e : m = k.toNat
 · subst e
   have e2 : ((k.toNat : Nat) : Int) = k := by omega
   rw [if_pos rfl, e2]; simp
 · rw [if_neg e]
   have e2 : ¬ (m : Int) = k := by omega
   simp [e2]
def Met (p : ProgramD) (R : List Int) : Prop := R.Nodup /\ ∀ k ∈ R, cntK p.nodes p.nodes.length k.toNat = 0
theorem Met.snoc {p : ProgramD} {R : List Int} (h : Met p R) {k : Int} (h0 : 0 <= k) (hm : metF p R k.toNat = 0) : Met p (R ++ [k]) := by
 have e2 : ((k.toNat : Nat) : Int) = k := by omega
 unfold metF at hm
 rw [e2] at hm
 split at hm
 · omega
 · rename_i hn
   refine ⟨?_, fun q hq => ?_⟩
   · rw [List.nodup_append]
     exact ⟨h.1, by simp, fun a ha b hb => by simp at hb; subst hb; exact fun e => hn (e ▸ ha)⟩
   · rcases List.mem_append.1 hq with hq | hq
     · exact h.2 q hq
     · simp at hq; subst hq; omega
theorem zoe {p : ProgramD} {R : List Int} {k : Int} (h0 : 0 <= k) (hl : k.toNat < p.nodes.length) (hs : (R ++ [k]).Sublist (allR p.fns)) (hm : metF p R k.toNat ≠ 0) : zG (zdL p) p.nodes.length = false := by
 refine zy hl ?_
 have e2 : ((k.toNat : Nat) : Int) = k := by omega
 have hc := hs.count_le k
 rw [List.count_append] at hc
 have h1 : [k].count k = 1 := by simp
 unfold metF at hm
 unfold zdL
 rw [e2] at hm |-
 have h2 : 0 < R.count k \/ 0 < cntK p.nodes p.nodes.length k.toNat := by
   split at hm
   · rename_i hmem; exact Or.inl (List.count_pos_iff.2 hmem)
   · right; omega
 generalize cntK p.nodes p.nodes.length k.toNat = c at h2 |-
 generalize (allR p.fns).count k = d at hc |-
 rw [Bool.or_eq_false_iff]
 constructor
 · apply Bool.eq_false_iff.2; intro hh; have := eq_of_beq hh; omega
 · apply Bool.eq_false_iff.2; intro hh; have := eq_of_beq hh; omega
theorem zod {p : ProgramD} (h : Met p (allR p.fns)) (hD : Deep p.nodes) (hl : p.nodes.length <= 300) (m : Nat) : (metF p (allR p.fns) m == 1 || metF p (allR p.fns) m == -1) = zdL p m := by
 have hle := zeF hD.nodup m p.nodes.length (Nat.le_refl _)
 unfold zdL metF
 by_cases hm : (m : Int) ∈ allR p.fns
 · have h1 : (allR p.fns).count (m : Int) = 1 := by
     rw [h.1.count, if_pos hm]
   have h2 := h.2 _ hm
   have e2 : (m : Int).toNat = m := by omega
   rw [e2] at h2
   rw [if_pos hm, h1, h2]; rfl
 · have h1 : (allR p.fns).count (m : Int) = 0 := List.count_eq_zero.2 hm
   rw [if_neg hm, h1]
   generalize cntK p.nodes p.nodes.length m = c at hle
   have e3 : ((c : Int) == -1) = false := by apply Bool.eq_false_iff.2; intro hh; have := eq_of_beq hh; omega
   have e4 : ((c : Int) + 1000 * ((0 : Nat) : Int) == 1000) = false := by apply Bool.eq_false_iff.2; intro hh; have := eq_of_beq hh; omega
   have e5 : ((c : Int) + 1000 * ((0 : Nat) : Int)) = c := by omega
   rw [e3, e4, e5]
theorem zeY (p : ProgramD) (hf : p.fns.length <= 1048576) (hn : p.nodes.length <= 1048576) (hk : ∀ x ∈ p.nodes, x.kids.length <= 1048576) (hpl : ∀ f ∈ p.fns, f.params.length <= 1048576) : zB Tryz.prog 175 [.ro (zb p)] (fun rs st => rs = [(false, [cB (yX p)])]) := by
 refine zt (fn := Tryz.f175) (c := Tryz.f175.body.getD .skip) (res := [.tm 2]) (n := 115) ze (by kernel_rfl) (by rfl) (by kernel_rfl) (by rfl) (by rfl) (by simp [zq]) (fun uf ub C hpin hpin2 hfull => ?_)
 simp only [Tryz.f175, Option.getD_some]
 have w1 : IntKind.i64.wrap ((p.nodes.length : Int) - 1) = (p.nodes.length : Int) - 1 := w64 (by omega) (by omega)
 refine Tri.step ze ?_
 simp +decide only [zb, za, zj, hpin, go_sem, reduceAdd, reduceMul]
 refine Tri.ent ?_ (Ent.frb hfull 1)
 refine Tri.step ze ?_
 simp +decide only [zb, za, zj, hpin, go_sem, reduceAdd, reduceMul]
 refine Tri.step ze ?_
 simp +decide only [zb, za, zj, hpin, go_sem, reduceAdd, reduceMul]
 refine zd (in' p.nodes.length 1 300) hpin ?_
 unfold yX
 cases h0 : inI p.nodes.length 1 300 with
 | false => simp +decide only [zj, hpin, go_sem, reduceAdd, reduceMul]
 | true =>
 simp +decide only [zb, za, zj, hpin, go_sem, reduceAdd, reduceMul]
 refine zd (in' p.fns.length 1 8) hpin ?_
 cases h1 : inI p.fns.length 1 8 with
 | false => simp +decide only [zj, hpin, go_sem, reduceAdd, reduceMul]
 | true =>
 simp +decide only [w1, zb, za, zj, hpin, go_sem, reduceAdd, reduceMul]
 refine zd (zbi p.nodes (p.nodes.length - 1) hn hk) hpin ?_
 cases h2 : yJ p.nodes (p.nodes.length - 1) == 0 with
 | true => simp +decide only [h2, zj, hpin, go_sem, reduceAdd, reduceMul]
 | false =>
 have hD := zjH h2
 have hr0 := zu h0
 have hr1 := zu h1
 have hz := zhl p.nodes.length
 have hm1 : ((8 : Nat) : Int) * (p.nodes.length : Int) <= 281474976710656 := by omega
 have hm2 : (p.nodes.length : Int) <= 140737488355328 := by omega
 simp only [cI] at hz
 simp +decide only [h2, zj, hpin, go_sem, reduceAdd, reduceMul]
 refine Tri.step ze ?_
 simp +decide only [hm1, hm2, hz, Int.natCast_nonneg, za, zj, hpin, go_sem, reduceAdd, reduceMul]
 refine Tri.step ze ?_
 simp +decide only [za, zj, hpin, go_sem, reduceAdd, reduceMul]
 refine Tri.loop (ι := Nat) (fun i => i <= p.nodes.length) (fun i => ⟨115, [(1, .ip (za true p) 0), (2, vB false), (4, .ref 4 [] p.nodes.length), (39, .imm 83 (rows (zg true) p.nodes)), (40, vI p.nodes.length), (41, vI i)], [(4, .row 3 (row1 cI (tabI p.nodes.length fun m => (cntK p.nodes i m : Int))))]⟩) (fun i => p.nodes.length - i) 0 (by simp) ?_ ?_
 · have e0 : tabI p.nodes.length (fun m => (cntK p.nodes 0 m : Int)) = tabI p.nodes.length (fun _ => 0) := Yi (fun m _ => by simp [cntK, sumN])
   refine Ent.weak ?_ ?_ ?_ ?_ <;> simp +decide [subT, subB, zl, zk, zo, St.get, look, vI, vB, vS, cI, cS, cB, zg, roI, za, e0]
 · rintro i hi
   refine zf ze _ ?_
   by_cases h' : i < p.nodes.length
   · have e : ((i : Int) < (p.nodes.length : Int)) = True := by simp [h']
     have hkx := hk p.nodes[i] (List.getElem_mem h')
     have hkid := hD.kid h'
     have hnd := hD.nodup p.nodes[i] (List.getElem_mem h')
     have hlast := ziB h'
     have hx : (rows (zg true) p.nodes).getD i [] = zg true p.nodes[i] := zi _ _ h'
     generalize p.nodes[i] = x at hx hkx hkid hnd hlast
     simp +decide only [e, h', hx, zg, Int.natCast_nonneg, za, vB, vI, zj, hpin, go_sem, reduceAdd, reduceMul]
     refine Tri.loop (ι := Nat) (fun j => j <= x.kids.length) (fun j => ⟨115, [(1, .ip (za true p) 0), (2, vB false), (4, .ref 4 [] p.nodes.length), (39, .imm 83 (rows (zg true) p.nodes)), (40, vI p.nodes.length), (41, vI i), (46, roI x.kids), (47, vI x.kids.length), (48, vI j)], [(4, .row 3 (row1 cI (tabI p.nodes.length (cntF p.nodes x i j))))]⟩) (fun j => x.kids.length - j) 0 (by simp) ?_ ?_
     · have e0 : tabI p.nodes.length (cntF p.nodes x i 0) = tabI p.nodes.length (fun m => (cntK p.nodes i m : Int)) := Yi (fun m _ => ziz p.nodes x i m)
       refine Ent.weak ?_ ?_ ?_ ?_ <;> simp +decide [subT, subB, zl, zk, zo, St.get, look, vI, vB, vS, cI, cS, cB, zg, roI, za, e0]
     · rintro j hj
       refine zf ze _ ?_
       by_cases hj' : j < x.kids.length
       · have e2 : ((j : Int) < (x.kids.length : Int)) = True := by simp [hj']
         obtain ⟨q0, q1, q2⟩ := hkid x.kids[j] (List.getElem_mem hj')
         have hkl : x.kids[j].toNat < p.nodes.length := by omega
         have z0 : (0 <= x.kids[j]) = True := eq_true q0
         have z1 : (x.kids[j] < (p.nodes.length : Int)) = True := eq_true (by omega)
         have hrg := zfU hD.nodup hnd (Nat.le_of_lt h') j x.kids[j].toNat
         have wv : IntKind.i64.wrap (cntF p.nodes x i j x.kids[j].toNat + 1) = cntF p.nodes x i j x.kids[j].toNat + 1 := w64 (by omega) (by omega)
         have hset := zbq (f := cntF p.nodes x i j) hkl (cntF p.nodes x i j x.kids[j].toNat + 1)
         have hgq := xw (f := cntF p.nodes x i j) hkl
         rw [ziA hj' q0] at hset
         simp only [cI] at hset hgq
         simp +decide only [e2, z0, z1, wv, hset, hgq, hkl, zr _ _ hj', Int.natCast_nonneg, za, vB, vI, zj, hpin, go_sem, reduceAdd, reduceMul]
         refine ⟨j + 1, hj', by omega, Ent.weak ?_ ?_ ?_ ?_⟩
         all_goals simp +decide [subT, subB, zl, zk, zo, St.get, look, vI, vB, vS, cI, cS, cB, zg, roI, za, hgq, hset, w64s (n := x.kids.length) hj' (by omega)]
       · have hjl : j = x.kids.length := by omega
         subst hjl
         have e2 : ((x.kids.length : Int) < (x.kids.length : Int)) = False := by simp
         have e9 : tabI p.nodes.length (cntF p.nodes x i x.kids.length) = tabI p.nodes.length (fun m => (cntK p.nodes (i + 1) m : Int)) := Yi (fun m _ => hlast m)
         simp +decide only [e2, za, vB, vI, zj, hpin, go_sem, reduceAdd, reduceMul]
         refine ⟨i + 1, h', by omega, Ent.weak ?_ ?_ ?_ ?_⟩
         all_goals simp +decide [subT, subB, zl, zk, zo, St.get, look, vI, vB, vS, cI, cS, cB, zg, roI, za, e9, w64s (n := p.nodes.length) h' (by omega)]
   · have hil : i = p.nodes.length := by omega
     subst hil
     have e : ((p.nodes.length : Int) < (p.nodes.length : Int)) = False := by simp
     have e1 : (fun m => (cntK p.nodes p.nodes.length m : Int)) = metF p (allR (p.fns.take 0)) := by funext m; simp [allR, metF]
     simp +decide only [e, za, vB, vI, zj, hpin, go_sem, reduceAdd, reduceMul]
     rw [e1]
     refine Tri.step ze ?_
     simp +decide only [za, zj, hpin, go_sem, reduceAdd, reduceMul]
     refine Tri.loop (ι := Nat) (fun i => i <= p.fns.length /\ Met p (allR (p.fns.take i)) /\ zG (xv p) i = true) (fun i => ⟨115, [(1, .ip (za true p) 0), (2, vB false), (4, .ref 4 [] p.nodes.length), (61, .imm 104 (rows (fnC true) p.fns)), (62, vI p.fns.length), (63, vI i)], [(4, .row 3 (row1 cI (tabI p.nodes.length (metF p (allR (p.fns.take i))))))]⟩) (fun i => p.fns.length - i) 0 ⟨by simp, ⟨by simp [allR], by simp [allR]⟩, rfl⟩ ?_ ?_
     · refine Ent.weak ?_ ?_ ?_ ?_ <;> simp +decide [subT, subB, zl, zk, zo, St.get, look, vI, vB, vS, cI, cS, cB, zg, roI, za]
     · rintro i ⟨hi, hM, hB⟩
       refine zf ze _ ?_
       by_cases h' : i < p.fns.length
       · have e : ((i : Int) < (p.fns.length : Int)) = True := by simp [h']
         have hplx := hpl p.fns[i] (List.getElem_mem h')
         have hx : (rows (fnC true) p.fns).getD i [] = fnC true p.fns[i] := zi _ _ h'
         have hnext := ziH h'
         have hsub := fun b => zkG h' b
         have hfr : xv p i = (ZW p p.fns[i] && xJ p.fns p.fns[i].name == (i : Int)) := by unfold xv; rw [yE h']
         generalize p.fns[i] = f at hx hplx hnext hsub hfr
         have hf2 := zjx p f hn hplx
         have ha2 := XA p f.name hf
         simp only [fnW, zb] at hf2 ha2
         simp +decide only [e, h', hx, fnC, Int.natCast_nonneg, za, vB, vI, zj, hpin, go_sem, reduceAdd, reduceMul]
         refine zd hf2 hpin ?_
         cases g0 : ZW p f with
         | false =>
           have hff : zG (xv p) p.fns.length = false := zy h' (by rw [hfr, g0]; rfl)
           simp +decide only [hff, zj, hpin, go_sem, reduceAdd, reduceMul]
         | true =>
         simp +decide only [zj, hpin, go_sem, reduceAdd, reduceMul]
         refine zd ha2 hpin ?_
         cases g1 : xJ p.fns f.name == (i : Int) with
         | false =>
           have hff : zG (xv p) p.fns.length = false := zy h' (by rw [hfr, g0, g1]; rfl)
           simp +decide only [hff, g1, bne, zj, hpin, go_sem, reduceAdd, reduceMul]
         | true =>
         have hB2 : zG (xv p) (i + 1) = true := by rw [zM, hB, hfr, g0, g1]; rfl
         have hrt := xp g0
         simp +decide only [g1, bne, zj, hpin, go_sem, reduceAdd, reduceMul]
         have hR : ∀ b (hb : b < (rts f).length), (rts f)[b] < 0 \/ (0 <= (rts f)[b] /\ (rts f)[b].toNat < p.nodes.length) := fun b hb => by
           match b, hb with
           | 0, _ => exact Or.inr hrt.1
           | 1, _ => exact hrt.2
         have hRl : (rts f).length = 2 := rfl
         have er : [[D.sc (Value.int IntKind.i64 f.body)], [D.sc (Value.int IntKind.i64 f.ret)]] = row1 cI (rts f) := rfl
         have e0 : allR (p.fns.take i) ++ rtsP f 0 = allR (p.fns.take i) := by simp [rtsP]
         have hskip := fun b (hb : b < (rts f).length) (hk : (rts f)[b] < 0) => zhC f hb hk
         have htake := fun b (hb : b < (rts f).length) (hk : 0 <= (rts f)[b]) => zhB f hb hk
         rw [er]
         generalize allR (p.fns.take i) = A at hM hnext hsub e0 |-
         generalize hB4 : rts f = L at hR hRl hskip htake
         refine Tri.loop (ι := Nat) (fun b => b <= 2 /\ Met p (A ++ rtsP f b)) (fun b => ⟨115, [(1, .ip (za true p) 0), (2, vB false), (4, .ref 4 [] p.nodes.length), (61, .imm 104 (rows (fnC true) p.fns)), (62, vI p.fns.length), (63, vI i), (84, .ref 3084 [] 2), (85, vI (2 : Nat)), (86, vI b)], [(3084, .row 3 (row1 cI L)), (4, .row 3 (row1 cI (tabI p.nodes.length (metF p (A ++ rtsP f b)))))]⟩) (fun b => 2 - b) 0 ⟨by simp, by rw [e0]; exact hM⟩ ?_ ?_
         · refine Ent.weak ?_ ?_ ?_ ?_ <;> simp +decide [subT, subB, zl, zk, zo, St.get, look, vI, vB, vS, cI, cS, cB, zg, roI, za, e0]
         · rintro b ⟨hb, hM2⟩
           refine zf ze _ ?_
           by_cases hb' : b < 2
           · have e3 : ((b : Int) < ((2 : Nat) : Int)) = True := by simp; omega
             have hbl : b < L.length := by omega
             simp +decide only [e3, hb', yf _ _ hbl, Int.natCast_nonneg, za, vB, vI, zj, hpin, go_sem, reduceAdd, reduceMul]
             rcases hR b hbl with hneg | ⟨y0, y1⟩
             · have y2 : (L[b] < 0) = True := eq_true hneg
               have e4 := hskip b hbl hneg
               simp +decide only [y2, zj, hpin, go_sem, reduceAdd, reduceMul]
               refine ⟨b + 1, ⟨hb', by rw [e4]; exact hM2⟩, by omega, Ent.weak ?_ ?_ ?_ ?_⟩
               all_goals simp +decide [subT, subB, zl, zk, zo, St.get, look, vI, vB, vS, cI, cS, cB, zg, roI, za, e4, w64s (n := 2) hb' (by omega)]
             · have y2 : (L[b] < 0) = False := eq_false (by omega)
               have y3 : (0 <= L[b]) = True := eq_true y0
               have y4 : (L[b] < (p.nodes.length : Int)) = True := eq_true (by omega)
               have e4 := htake b hbl y0
               have hset := zbq (f := metF p (A ++ rtsP f b)) y1 (-1)
               have hgq := xw (f := metF p (A ++ rtsP f b)) y1
               rw [zmz p _ y0] at hset
               simp only [cI, List.append_assoc] at hset hgq
               rw [<- e4] at hset
               simp +decide only [y2, y3, y4, y1, hgq, Int.natCast_nonneg, bne, zj, hpin, go_sem, reduceAdd, reduceMul]
               cases hm : metF p (A ++ rtsP f b) L[b].toNat == 0 with
               | false =>
                 have hbad := zoe y0 y1 (by rw [List.append_assoc, <- e4]; exact hsub (b + 1)) (by simpa using hm)
                 simp +decide only [hm, hbad, zj, hpin, go_sem, reduceAdd, reduceMul]
               | true =>
                 have hM3 := hM2.snoc y0 (by simpa using hm)
                 rw [List.append_assoc, <- e4] at hM3
                 simp +decide only [hm, hset, hgq, y1, y3, y4, zj, hpin, go_sem, reduceAdd, reduceMul]
                 refine ⟨b + 1, ⟨hb', hM3⟩, by omega, Ent.weak ?_ ?_ ?_ ?_⟩
                 all_goals simp +decide [subT, subB, zl, zk, zo, St.get, look, vI, vB, vS, cI, cS, cB, zg, roI, za, hgq, hset, w64s (n := 2) hb' (by omega)]
           · have hb2 : b = 2 := by omega
             subst hb2
             have e3 : (((2 : Nat) : Int) < ((2 : Nat) : Int)) = False := by simp
             rw [<- hnext] at hM2
             simp +decide only [e3, za, vB, vI, zj, hpin, go_sem, reduceAdd, reduceMul]
             refine ⟨i + 1, ⟨h', hM2, hB2⟩, by omega, Ent.weak ?_ ?_ ?_ ?_⟩
             all_goals simp +decide [subT, subB, zl, zk, zo, St.get, look, vI, vB, vS, cI, cS, cB, zg, roI, za, hnext, w64s (n := p.fns.length) h' (by omega)]
       · have hil : i = p.fns.length := by omega
         subst hil
         have e : ((p.fns.length : Int) < (p.fns.length : Int)) = False := by simp
         rw [List.take_length] at hM
         have hlast := zod hM hD (by omega)
         simp +decide only [e, za, vB, vI, zj, hpin, go_sem, reduceAdd, reduceMul]
         rw [hB]
         refine Tri.step ze ?_
         simp +decide only [za, zj, hpin, go_sem, reduceAdd, reduceMul]
         refine Tri.loop (ι := Nat) (fun m => m <= p.nodes.length /\ zG (zdL p) m = true) (fun m => ⟨115, [(2, vB false), (102, .ref 4 [] p.nodes.length), (103, vI p.nodes.length), (104, vI m)], [(4, .row 3 (row1 cI (tabI p.nodes.length (metF p (allR p.fns)))))]⟩) (fun m => p.nodes.length - m) 0 ⟨by simp, rfl⟩ ?_ ?_
         · refine Ent.weak ?_ ?_ ?_ ?_ <;> simp +decide [subT, subB, zl, zk, zo, St.get, look, vI, vB, vS, cI, cS, cB, zg, roI, za]
         · rintro m ⟨hm, hq⟩
           refine zf ze _ ?_
           by_cases h' : m < p.nodes.length
           · have e : ((m : Int) < (p.nodes.length : Int)) = True := by simp [h']
             have hgq := xw (f := metF p (allR p.fns)) h'
             have hl := hlast m
             simp only [cI] at hgq
             generalize metF p (allR p.fns) m = z at hgq hl
             simp +decide only [e, h', hgq, Int.natCast_nonneg, bne, vB, vI, zj, hpin, go_sem, reduceAdd, reduceMul]
             cases z1 : z == 1 with
             | true =>
               rw [z1, Bool.true_or] at hl
               simp +decide only [z1, zj, hpin, go_sem, reduceAdd, reduceMul]
               refine ⟨m + 1, ⟨h', by rw [zM, hq, <- hl]; rfl⟩, by omega, Ent.weak ?_ ?_ ?_ ?_⟩
               all_goals simp +decide [subT, subB, zl, zk, zo, St.get, look, vI, vB, vS, cI, cS, cB, zg, roI, w64s (n := p.nodes.length) h' (by omega)]
             | false =>
               rw [z1, Bool.false_or] at hl
               cases z2 : z == -1 with
               | true =>
                 rw [z2] at hl
                 simp +decide only [z1, z2, zj, hpin, go_sem, reduceAdd, reduceMul]
                 refine ⟨m + 1, ⟨h', by rw [zM, hq, <- hl]; rfl⟩, by omega, Ent.weak ?_ ?_ ?_ ?_⟩
                 all_goals simp +decide [subT, subB, zl, zk, zo, St.get, look, vI, vB, vS, cI, cS, cB, zg, roI, w64s (n := p.nodes.length) h' (by omega)]
               | false =>
                 rw [z2] at hl
                 have hf : zG (zdL p) p.nodes.length = false := zy h' hl.symm
                 simp +decide only [z1, z2, hf, zj, hpin, go_sem, reduceAdd, reduceMul]
           · have hil : m = p.nodes.length := by omega
             subst hil
             have e : ((p.nodes.length : Int) < (p.nodes.length : Int)) = False := by simp
             rw [hq]
             simp +decide only [e, vB, vI, zj, hpin, go_sem, reduceAdd, reduceMul]
             refine zf ze _ ?_
             simp +decide only [zj, hpin, go_sem, reduceAdd, reduceMul]
theorem zkM (nodes : List NodeD) (hD : Deep nodes) (hn : nodes.length <= 1048576) (hk : ∀ x ∈ nodes, x.kids.length <= 1048576) : zB Tryz.prog 194 [.ro (.imm 83 (rows (zg true) nodes))] (fun rs st => rs = [(false, [.row false 3 (row1 cI (tabI nodes.length fun m => (cntK nodes nodes.length m : Int)))])]) := by
 refine zt (fn := Tryz.f194) (c := Tryz.f194.body.getD .skip) (res := [.tm 2]) (n := 39) ze (by kernel_rfl) (by rfl) (by kernel_rfl) (by rfl) (by rfl) (by simp [zq]) (fun uf ub C hpin hpin2 hfull => ?_)
 simp only [Tryz.f194, Option.getD_some]
 have hz := zhl nodes.length
 have hm1 : ((8 : Nat) : Int) * (nodes.length : Int) <= 281474976710656 := by omega
 have hm2 : (nodes.length : Int) <= 140737488355328 := by omega
 simp only [cI] at hz
 refine Tri.step ze ?_
 simp +decide only [zj, hpin, go_sem, reduceAdd, reduceMul]
 refine Tri.step ze ?_
 simp +decide only [hm1, hm2, hz, Int.natCast_nonneg, zj, hpin, go_sem, reduceAdd, reduceMul]
 refine Tri.step ze ?_
 simp +decide only [zj, hpin, go_sem, reduceAdd, reduceMul]
 refine Tri.loop (ι := Nat) (fun i => i <= nodes.length) (fun i => ⟨39, [(0, .imm 83 (rows (zg true) nodes)), (3, .ref 3 [] nodes.length), (4, vI i)], [(3, .row 3 (row1 cI (tabI nodes.length fun m => (cntK nodes i m : Int))))]⟩) (fun i => nodes.length - i) 0 (by simp) ?_ ?_
 · have e0 : tabI nodes.length (fun m => (cntK nodes 0 m : Int)) = tabI nodes.length (fun _ => 0) := Yi (fun m _ => by simp [cntK, sumN])
   refine Ent.weak ?_ ?_ ?_ ?_ <;> simp +decide [subT, subB, zl, zk, zo, St.get, look, vI, vB, vS, cI, cS, cB, zg, roI, e0]
 · rintro i hi
   refine zf ze _ ?_
   by_cases h' : i < nodes.length
   · have e : ((i : Int) < (nodes.length : Int)) = True := by simp [h']
     have hkx := hk nodes[i] (List.getElem_mem h')
     have hkid := hD.kid h'
     have hnd := hD.nodup nodes[i] (List.getElem_mem h')
     have hlast := ziB h'
     generalize hx : nodes[i] = x at hkx hkid hnd hlast
     simp +decide only [e, vB, vI, zj, hpin, go_sem, reduceAdd, reduceMul]
     refine Tri.loop (ι := Nat) (fun j => j <= x.kids.length) (fun j => ⟨39, [(0, .imm 83 (rows (zg true) nodes)), (3, .ref 3 [] nodes.length), (4, vI i), (5, vI j)], [(3, .row 3 (row1 cI (tabI nodes.length (cntF nodes x i j))))]⟩) (fun j => x.kids.length - j) 0 (by simp) ?_ ?_
     · have e0 : tabI nodes.length (cntF nodes x i 0) = tabI nodes.length (fun m => (cntK nodes i m : Int)) := Yi (fun m _ => ziz nodes x i m)
       refine Ent.weak ?_ ?_ ?_ ?_ <;> simp +decide [subT, subB, zl, zk, zo, St.get, look, vI, vB, vS, cI, cS, cB, zg, roI, e0]
     · rintro j hj
       refine zf ze _ ?_
       by_cases hj' : j < x.kids.length
       · have e2 : ((j : Int) < (x.kids.length : Int)) = True := by simp [hj']
         obtain ⟨q0, q1, q2⟩ := hkid x.kids[j] (List.getElem_mem hj')
         have hkl : x.kids[j].toNat < nodes.length := by omega
         have z0 : (0 <= x.kids[j]) = True := eq_true q0
         have z1 : (x.kids[j] < (nodes.length : Int)) = True := eq_true (by omega)
         have hrg := zfU hD.nodup hnd (Nat.le_of_lt h') j x.kids[j].toNat
         have wv : IntKind.i64.wrap (cntF nodes x i j x.kids[j].toNat + 1) = cntF nodes x i j x.kids[j].toNat + 1 := w64 (by omega) (by omega)
         have hset := zbq (f := cntF nodes x i j) hkl (cntF nodes x i j x.kids[j].toNat + 1)
         have hgq := xw (f := cntF nodes x i j) hkl
         rw [ziA hj' q0] at hset
         simp only [cI] at hset hgq
         simp +decide only [e, e2, z0, z1, wv, hset, hgq, hkl, zi _ _ h', hx, zg, zr _ _ hj', Int.natCast_nonneg, vB, vI, zj, hpin, go_sem, reduceAdd, reduceMul]
         refine ⟨j + 1, hj', by omega, Ent.weak ?_ ?_ ?_ ?_⟩
         all_goals simp +decide [subT, subB, zl, zk, zo, St.get, look, vI, vB, vS, cI, cS, cB, zg, roI, hgq, hset, w64s (n := x.kids.length) hj' (by omega)]
       · have hjl : j = x.kids.length := by omega
         subst hjl
         have e2 : ((x.kids.length : Int) < (x.kids.length : Int)) = False := by simp
         have e9 : tabI nodes.length (cntF nodes x i x.kids.length) = tabI nodes.length (fun m => (cntK nodes (i + 1) m : Int)) := Yi (fun m _ => hlast m)
         simp +decide only [e, e2, zi _ _ h', hx, zg, Int.natCast_nonneg, vB, vI, zj, hpin, go_sem, reduceAdd, reduceMul]
         refine ⟨i + 1, h', by omega, Ent.weak ?_ ?_ ?_ ?_⟩
         all_goals simp +decide [subT, subB, zl, zk, zo, St.get, look, vI, vB, vS, cI, cS, cB, zg, roI, e9, w64s (n := nodes.length) h' (by omega)]
   · have hil : i = nodes.length := by omega
     subst hil
     have e : ((nodes.length : Int) < (nodes.length : Int)) = False := by simp
     simp +decide only [e, vB, vI, zj, hpin, go_sem, reduceAdd, reduceMul]
     refine zf ze _ ?_
     simp +decide only [zj, hpin, go_sem, reduceAdd, reduceMul]
def useF (p : ProgramD) (R : List Int) : Nat -> Int := fun m => (cntK p.nodes p.nodes.length m : Int) + 1000 * (R.count (m : Int) : Int)
theorem znC (p : ProgramD) : (fun m => (cntK p.nodes p.nodes.length m : Int)) = useF p (allR (p.fns.take 0)) := by funext m; simp [useF, allR]
theorem zhc (p : ProgramD) (R : List Int) {k : Int} (h0 : 0 <= k) : (fun m => if m = k.toNat then useF p R k.toNat + 1000 else useF p R m) = useF p (R ++ [k]) := by
 funext m
 unfold useF
 rw [List.count_append]
 by_cases e : m = k.toNat
 · subst e
   have e2 : ((k.toNat : Nat) : Int) = k := by omega
   rw [if_pos rfl, e2]
   simp; omega
 · rw [if_neg e]
   have e2 : (k == (m : Int)) = false := by apply Bool.eq_false_iff.2; intro hh; have := eq_of_beq hh; omega
   simp [List.count_cons, e2]
theorem zfp {p : ProgramD} (hD : Deep p.nodes) (hl : p.nodes.length <= 300) (hf : p.fns.length <= 8) {R : List Int} (hs : R.Sublist (allR p.fns)) (m : Nat) : 0 <= useF p R m /\ useF p R m <= 300 + 16000 := by
 have h1 := zeF hD.nodup m p.nodes.length (Nat.le_refl _)
 have h2 : R.count (m : Int) <= R.length := List.count_le_length
 have h3 := hs.length_le
 have h4 := zeN p.fns
 unfold useF
 omega
theorem zeX (p : ProgramD) (hf : p.fns.length <= 1048576) (hn : p.nodes.length <= 1048576) (hk : ∀ x ∈ p.nodes, x.kids.length <= 1048576) (hpl : ∀ f ∈ p.fns, f.params.length <= 1048576) : zB Tryz.prog 164 [.ro (zb p)] (fun rs st => rs = [(false, [cB (yX p)])]) := by
 refine zt (fn := Tryz.f164) (c := Tryz.f164.body.getD .skip) (res := [.tm 2]) (n := 108) ze (by kernel_rfl) (by rfl) (by kernel_rfl) (by rfl) (by rfl) (by simp [zq]) (fun uf ub C hpin hpin2 hfull => ?_)
 simp only [Tryz.f164, Option.getD_some]
 refine Tri.step ze ?_
 simp +decide only [zb, za, zj, hpin, go_sem, reduceAdd, reduceMul]
 refine Tri.ent ?_ (Ent.frb hfull 1)
 refine Tri.step ze ?_
 simp +decide only [zb, za, zj, hpin, go_sem, reduceAdd, reduceMul]
 refine zd (yC p.nodes.length 1 300) hpin ?_
 unfold yX
 cases h0 : inI p.nodes.length 1 300 with
 | false => simp +decide only [zj, hpin, go_sem, reduceAdd, reduceMul]
 | true =>
 simp +decide only [zb, za, zj, hpin, go_sem, reduceAdd, reduceMul]
 refine zd (yC p.fns.length 1 8) hpin ?_
 cases h1 : inI p.fns.length 1 8 with
 | false => simp +decide only [zj, hpin, go_sem, reduceAdd, reduceMul]
 | true =>
 have hr0 := zu h0
 have hr1 := zu h1
 obtain ⟨n, hnn⟩ : ∃ n : Nat, p.nodes.length = n + 1 := ⟨p.nodes.length - 1, by omega⟩
 have e9 : (p.nodes.length : Int) - 1 = (n : Int) := by omega
 have w1 : IntKind.i64.wrap ((p.nodes.length : Int) - 1) = (n : Int) := by rw [w64 (by omega) (by omega)]; exact e9
 have hll := yI p.nodes (n + 1)
 have hlt : n < (zD p.nodes (n + 1)).length := by omega
 have hg : (zD p.nodes (n + 1))[n] = yJ p.nodes n := by
   have := Xi p.nodes (show n < n + 1 by omega)
   simp only [List.getD, hlt, List.getElem?_eq_getElem, Option.getD_some] at this
   have h9 : inI (n : Int) 0 (p.nodes.length - 1) = true := by simp [inI]; omega
   rw [this]; simp [yJ, h9, dAt]
 have hc : ((n : Int) < ((n + 1 : Nat) : Int)) = True := eq_true (by omega)
 have w2 : IntKind.i64.wrap (((n + 1 : Nat) : Int) - 1) = (n : Int) := by rw [w64 (by omega) (by omega)]; omega
 simp +decide only [zj, hpin, go_sem, reduceAdd, reduceMul]
 refine Tri.step ze ?_
 simp +decide only [w1, za, zj, hpin, go_sem, reduceAdd, reduceMul]
 refine zd (zcO p.nodes n (by omega) hn hk) hpin ?_
 simp +decide only [hll, zj, hpin, go_sem, reduceAdd, reduceMul]
 refine Tri.step ze ?_
 simp +decide only [hll, w2, hc, yf _ _ hlt, hg, Int.natCast_nonneg, zj, hpin, go_sem, reduceAdd, reduceMul]
 rw [e9]
 cases h2 : yJ p.nodes n == 0 with
 | true => simp +decide only [h2, zj, hpin, go_sem, reduceAdd, reduceMul]
 | false =>
 have hD := zjH (nodes := p.nodes) (by rw [e9]; exact h2)
 simp +decide only [h2, zj, hpin, go_sem, reduceAdd, reduceMul]
 refine Tri.step ze ?_
 simp +decide only [za, zj, hpin, go_sem, reduceAdd, reduceMul]
 refine zd (zkM p.nodes hD hn hk) hpin ?_
 rw [znC p]
 simp +decide only [za, zj, hpin, go_sem, reduceAdd, reduceMul]
 refine Tri.step ze ?_
 simp +decide only [za, zj, hpin, go_sem, reduceAdd, reduceMul]
 refine Tri.loop (ι := Nat) (fun i => i <= p.fns.length /\ zG (xv p) i = true) (fun i => ⟨108, [(1, .ip (za true p) 0), (2, vB false), (4, .ref 4 [] p.nodes.length), (5, vI i)], [(4, .row 3 (row1 cI (tabI p.nodes.length (useF p (allR (p.fns.take i))))))]⟩) (fun i => p.fns.length - i) 0 ⟨by simp, rfl⟩ ?_ ?_
 · refine Ent.weak ?_ ?_ ?_ ?_ <;> simp +decide [subT, subB, zl, zk, zo, St.get, look, vI, vB, vS, cI, cS, cB, zg, roI, za]
 · rintro i ⟨hi, hB⟩
   refine zf ze _ ?_
   by_cases h' : i < p.fns.length
   · have e : ((i : Int) < (p.fns.length : Int)) = True := by simp [h']
     have hfn := zjw p i h' hf hn hpl
     have hx : (rows (fnC true) p.fns).getD i [] = fnC true p.fns[i] := zi _ _ h'
     have hnext := ziH h'
     have hsub := fun b => zkG h' b
     have hfr : xv p i = (ZW p p.fns[i] && xJ p.fns p.fns[i].name == (i : Int)) := by unfold xv; rw [yE h']
     simp only [zb] at hfn
     generalize p.fns[i] = f at hfn hx hnext hsub hfr
     rw [<- hfr] at hfn
     simp +decide only [e, Int.natCast_nonneg, za, vB, vI, zj, hpin, go_sem, reduceAdd, reduceMul]
     refine zd hfn hpin ?_
     cases g0 : xv p i with
     | false =>
       have hff : zG (xv p) p.fns.length = false := zy h' g0
       simp +decide only [hff, zj, hpin, go_sem, reduceAdd, reduceMul]
     | true =>
     have hB2 : zG (xv p) (i + 1) = true := by rw [zM, hB, g0]; rfl
     rw [g0] at hfr
     have hrt := xp (Bool.and_eq_true_iff.1 hfr.symm).1
     simp +decide only [e, Int.natCast_nonneg, za, vB, vI, zj, hpin, go_sem, reduceAdd, reduceMul]
     refine Tri.sched ze [(0, true), (1, true), (3, true), (7, true), (8, true), (10, true), (2, true), (4, true), (5, true), (6, true), (9, false), (11, false), (12, false), (13, false), (14, false), (15, false), (16, false), (17, false), (18, false)] zL (by kernel_rfl) (fun C2 hC2 => ?_)
     have hp2 := zN hC2 hpin
     have e0 : allR (p.fns.take i) ++ rtsP f 0 = allR (p.fns.take i) := by simp [rtsP]
     have r1 : rtsP f 1 = [f.body] := by simp [rtsP, rts, hrt.1.1]
     obtain ⟨⟨y0, y1⟩, hret⟩ := hrt
     have z0 : (0 <= f.body) = True := eq_true y0
     have z1 : (f.body < (p.nodes.length : Int)) = True := eq_true (by omega)
     have hs1 := hsub 1
     rw [r1] at hs1
     have hrg := zfp hD (by omega) (by omega) ((List.sublist_append_left (allR (p.fns.take i)) _).trans hs1) f.body.toNat
     have hset := zbq (f := useF p (allR (p.fns.take i))) y1 (useF p (allR (p.fns.take i)) f.body.toNat + 1000)
     have hgq := xw (f := useF p (allR (p.fns.take i))) y1
     have hgd := zka (f := useF p (allR (p.fns.take i))) y1
     rw [zhc p _ y0, <- r1] at hset
     have wv : IntKind.i64.wrap (useF p (allR (p.fns.take i)) f.body.toNat + 1000) = useF p (allR (p.fns.take i)) f.body.toNat + 1000 := w64 (by omega) (by omega)
     simp only [cI] at hset hgq hgd
     simp +decide only [e, h', hx, fnC, z0, z1, y1, wv, hgq, hgd, hset, Int.natCast_nonneg, za, vB, vI, zj, hp2, go_sem, reduceAdd, reduceMul]
     rcases hret with hneg | ⟨x0, x1⟩
     · have r2 : rtsP f 2 = rtsP f 1 := zhC f (b := 1) (by simp [rts]) hneg
       have z5 : (0 <= f.ret) = False := eq_false (by omega)
       rw [r2] at hnext
       simp +decide only [z5, zj, hpin, go_sem, reduceAdd, reduceMul]
       refine ⟨i + 1, ⟨h', hB2⟩, by omega, Ent.weak ?_ ?_ ?_ ?_⟩
       all_goals simp +decide [subT, subB, zl, zk, zo, St.get, look, vI, vB, vS, cI, cS, cB, zg, roI, za, hnext, hgq, hset, w64s (n := p.fns.length) h' (by omega)]
     · have r2 : rtsP f 2 = rtsP f 1 ++ [f.ret] := zhB f (b := 1) (by simp [rts]) x0
       have z5 : (0 <= f.ret) = True := eq_true x0
       have z6 : (f.ret < (p.nodes.length : Int)) = True := eq_true (by omega)
       rw [r2, <- List.append_assoc] at hnext
       have hs2 := hsub 1
       have hset2 := zbq (f := useF p (allR (p.fns.take i) ++ rtsP f 1)) x1 (useF p (allR (p.fns.take i) ++ rtsP f 1) f.ret.toNat + 1000)
       have hgq2 := xw (f := useF p (allR (p.fns.take i) ++ rtsP f 1)) x1
       have hgd2 := zka (f := useF p (allR (p.fns.take i) ++ rtsP f 1)) x1
       rw [zhc p _ x0, <- hnext] at hset2
       have hrg2 := zfp hD (by omega) (by omega) hs2 f.ret.toNat
       have wv2 : IntKind.i64.wrap (useF p (allR (p.fns.take i) ++ rtsP f 1) f.ret.toNat + 1000) = useF p (allR (p.fns.take i) ++ rtsP f 1) f.ret.toNat + 1000 := w64 (by omega) (by omega)
       simp only [cI] at hset2 hgq2 hgd2
       simp +decide only [z5, zj, hpin, go_sem, reduceAdd, reduceMul]
       refine Tri.sched ze [(0, true), (1, true), (3, true), (7, true), (8, true), (10, true), (2, true), (4, true), (5, true), (6, true), (9, false), (11, false), (12, false), (13, false), (14, false), (15, false), (16, false), (17, false), (18, false)] zL (by kernel_rfl) (fun C3 hC3 => ?_)
       have hp3 := zN hC3 hpin
       simp +decide only [e, h', hx, fnC, z5, z6, x1, wv2, hgq2, hgd2, hset2, Int.natCast_nonneg, za, vB, vI, zj, hp3, hpin, go_sem, reduceAdd, reduceMul]
       refine ⟨i + 1, ⟨h', hB2⟩, by omega, Ent.weak ?_ ?_ ?_ ?_⟩
       all_goals simp +decide [subT, subB, zl, zk, zo, St.get, look, vI, vB, vS, cI, cS, cB, zg, roI, za, hgq2, hset2, w64s (n := p.fns.length) h' (by omega)]
   · have hil : i = p.fns.length := by omega
     subst hil
     have e : ((p.fns.length : Int) < (p.fns.length : Int)) = False := by simp
     simp +decide only [e, za, vB, vI, zj, hpin, go_sem, reduceAdd, reduceMul]
     rw [hB]
     refine Tri.step ze ?_
     simp +decide only [za, zj, hpin, go_sem, reduceAdd, reduceMul]
     refine Tri.loop (ι := Nat) (fun m => m <= p.nodes.length /\ zG (zdL p) m = true) (fun m => ⟨108, [(2, vB false), (4, .ref 4 [] p.nodes.length), (6, vI m)], [(4, .row 3 (row1 cI (tabI p.nodes.length (useF p (allR p.fns)))))]⟩) (fun m => p.nodes.length - m) 0 ⟨by simp, rfl⟩ ?_ ?_
     · refine Ent.weak ?_ ?_ ?_ ?_ <;> simp +decide [subT, subB, zl, zk, zo, St.get, look, vI, vB, vS, cI, cS, cB, zg, roI, za]
     · rintro m ⟨hm, hq⟩
       refine zf ze _ ?_
       by_cases h' : m < p.nodes.length
       · have e : ((m : Int) < (p.nodes.length : Int)) = True := by simp [h']
         have hgq := xw (f := useF p (allR p.fns)) h'
         have hl : (useF p (allR p.fns) m == 1 || useF p (allR p.fns) m == 1000) = zdL p m := rfl
         simp only [cI] at hgq
         generalize useF p (allR p.fns) m = z at hgq hl
         simp +decide only [e, h', hgq, Int.natCast_nonneg, bne, vB, vI, zj, hpin, go_sem, reduceAdd, reduceMul]
         cases z1 : z == 1 with
         | true =>
           rw [z1, Bool.true_or] at hl
           simp +decide only [z1, zj, hpin, go_sem, reduceAdd, reduceMul]
           refine ⟨m + 1, ⟨h', by rw [zM, hq, <- hl]; rfl⟩, by omega, Ent.weak ?_ ?_ ?_ ?_⟩
           all_goals simp +decide [subT, subB, zl, zk, zo, St.get, look, vI, vB, vS, cI, cS, cB, zg, roI, w64s (n := p.nodes.length) h' (by omega)]
         | false =>
           rw [z1, Bool.false_or] at hl
           cases z2 : z == 1000 with
           | true =>
             rw [z2] at hl
             simp +decide only [z1, z2, zj, hpin, go_sem, reduceAdd, reduceMul]
             refine ⟨m + 1, ⟨h', by rw [zM, hq, <- hl]; rfl⟩, by omega, Ent.weak ?_ ?_ ?_ ?_⟩
             all_goals simp +decide [subT, subB, zl, zk, zo, St.get, look, vI, vB, vS, cI, cS, cB, zg, roI, w64s (n := p.nodes.length) h' (by omega)]
           | false =>
             rw [z2] at hl
             have hf : zG (zdL p) p.nodes.length = false := zy h' hl.symm
             simp +decide only [z1, z2, hf, zj, hpin, go_sem, reduceAdd, reduceMul]
       · have hil : m = p.nodes.length := by omega
         subst hil
         have e : ((p.nodes.length : Int) < (p.nodes.length : Int)) = False := by simp
         rw [hq]
         simp +decide only [e, vB, vI, zj, hpin, go_sem, reduceAdd, reduceMul]
         refine zf ze _ ?_
         simp +decide only [zj, hpin, go_sem, reduceAdd, reduceMul]
def XU (x : ParamD) : VarD := ⟨x.name, x.ty, -1⟩
def letV (nodes : List NodeD) (k : Int) : List VarD := if (nAt nodes k).kind == 13 then [⟨(nAt nodes k).name, 0, k⟩] else []
def zY (l : List ParamD) : List VarD := l.map XU
def xZ (nodes : List NodeD) (l : List Int) : List VarD := l.flatMap (letV nodes)
noncomputable def ZR (p : ProgramD) (fn : Int) : List VarD := if inI fn 0 (p.fns.length - 1) then zY (fAt p.fns fn).params ++ xZ p.nodes (yU p.nodes (fAt p.fns fn).body) else []
theorem Xu (nodes : List NodeD) : ∀ l : List Int, (xZ nodes l).length <= l.length
 | [] => by simp [xZ]
 | k :: r => by
   have h1 := Xu nodes r
   have h2 : (letV nodes k).length <= 1 := by unfold letV; split <;> simp
   unfold xZ at h1 |-
   rw [List.flatMap_cons, List.length_append, List.length_cons]; omega
theorem zmF (nodes : List NodeD) {l : List Int} {i : Nat} (h : i < l.length) : xZ nodes (l.take (i + 1)) = xZ nodes (l.take i) ++ letV nodes l[i] := by
 unfold xZ
 rw [List.take_succ_eq_append_getElem h, List.flatMap_append]; simp
def accV (nodes : List NodeD) (M : List VarD) (l : List Int) : List VarD := M ++ xZ nodes l
theorem ziI (nodes : List NodeD) (M : List VarD) {l : List Int} {i : Nat} (h : i < l.length) : accV nodes M (l.take (i + 1)) = accV nodes M (l.take i) ++ letV nodes l[i] := by
 unfold accV; rw [zmF nodes h, List.append_assoc]
theorem zeO (nodes : List NodeD) (M : List VarD) (l : List Int) : (accV nodes M l).length <= M.length + l.length := by
 have := Xu nodes l
 unfold accV; rw [List.length_append]; omega
theorem zdF {l : List ParamD} {i : Nat} (h : i < l.length) : zY (l.take (i + 1)) = zY (l.take i) ++ [XU l[i]] := by
 unfold zY
 rw [List.take_succ_eq_append_getElem h, List.map_append]; rfl
theorem Yw (l : List ParamD) : (zY l).length = l.length := by simp [zY]
theorem zcV (l : List VarD) (x : VarD) : rows (varC false) l ++ [[cS x.name, cI x.ty, cI x.node]] = rows (varC false) (l ++ [x]) := zdy _ l x
theorem zdh (p : ProgramD) (fn : Int) (hf : p.fns.length <= 1048576) (hn : p.nodes.length <= 1048576) (hk : ∀ x ∈ p.nodes, x.kids.length <= 1048576) (hpl : ∀ f ∈ p.fns, f.params.length <= 1048576) : zB Tryz.prog 142 [.ro (zb p), .ro (.sc (.int .i64 fn))] (fun rs st => rs = [(false, [.row false 96 (rows (varC false) (ZR p fn))])]) := by
 refine zt (fn := Tryz.f142) (c := Tryz.f142.body.getD .skip) (res := [.tm 4]) (n := 68) ze (by kernel_rfl) (by rfl) (by kernel_rfl) (by rfl) (by rfl) (by simp [zq]) (fun uf ub C hpin hpin2 hfull => ?_)
 simp only [Tryz.f142, Option.getD_some]
 have w1 : IntKind.i64.wrap ((p.fns.length : Int) - 1) = (p.fns.length : Int) - 1 := w64 (by omega) (by omega)
 have e0 : rows (varC false) ([] : List VarD) = [] := rfl
 refine Tri.step ze ?_
 simp +decide only [zb, za, hpin, go_sem, reduceAdd, reduceMul]
 refine Tri.ent ?_ (Ent.frb hfull 2)
 refine Tri.step ze ?_
 simp +decide only [w1, zb, za, hpin, go_sem, reduceAdd, reduceMul]
 refine zd (in' fn 0 (p.fns.length - 1)) hpin ?_
 unfold ZR
 cases h0 : inI fn 0 (p.fns.length - 1) with
 | false => simp +decide only [e0, zb, za, hpin, go_sem, reduceAdd, reduceMul]
 | true =>
 have hr := zu h0
 obtain ⟨f, rfl⟩ : ∃ f : Nat, fn = f := ⟨fn.toNat, by omega⟩
 have hfl : f < p.fns.length := by omega
 have c1 : ((f : Int) < (p.fns.length : Int)) = True := eq_true (by omega)
 have hx : (rows (fnC true) p.fns).getD f [] = fnC true p.fns[f] := zi _ _ hfl
 have hplx := hpl p.fns[f] (List.getElem_mem hfl)
 rw [yE hfl]
 generalize p.fns[f] = g at hx hplx
 simp +decide only [zb, za, hpin, go_sem, reduceAdd, reduceMul]
 refine Tri.step ze ?_
 simp +decide only [zb, za, hpin, go_sem, reduceAdd, reduceMul]
 refine Tri.step ze ?_
 simp +decide only [c1, hx, fnC, Int.natCast_nonneg, zb, za, hpin, go_sem, reduceAdd, reduceMul]
 refine Tri.loop (ι := Nat) (fun i => i <= g.params.length) (fun i => ⟨68, [(1, vI f), (2, .ip (za true p) 0), (5, .ref 5 [] (zY (g.params.take i)).length), (23, .imm 107 (rows (zE true) g.params)), (24, vI g.params.length), (25, vI i)], [(5, .row 96 (rows (varC false) (zY (g.params.take i))))]⟩) (fun i => g.params.length - i) 0 (by simp) ?_ ?_
 · refine Ent.weak ?_ ?_ ?_ ?_ <;> simp +decide [subT, subB, zl, zk, zo, St.get, look, vI, vB, vS, cI, cS, cB, zg, roI, za, rows, zY]
 · rintro i hi
   refine zf ze _ ?_
   by_cases h' : i < g.params.length
   · have e : ((i : Int) < (g.params.length : Int)) = True := by simp [h']
     have hnx := zdF h'
     have hlen : (zY (g.params.take i)).length <= i := by rw [Yw]; simp; omega
     have htk := yq (varC false) (zY (g.params.take i))
     have hsn := zcV (zY (g.params.take i)) (XU g.params[i])
     have hy : (rows (zE true) g.params).getD i [] = zE true g.params[i] := zi _ _ h'
     have hl2 : (zY (g.params.take (i + 1))).length = (zY (g.params.take i)).length + 1 := by rw [hnx]; simp
     rw [<- hnx] at hsn
     simp only [XU] at hsn
     generalize zY (g.params.take i) = M at hlen htk hsn hl2
     have hb1 : M.length + 1 <= 140737488355328 := by omega
     have hb2 : (M.length + 1) * 32 <= 140737488355328 := by omega
     simp only [cI, cS] at hsn
     simp +decide only [e, hy, zE, hb1, hb2, htk, hsn, Int.natCast_nonneg, vB, vI, zb, za, hpin, go_sem, reduceAdd, reduceMul]
     refine ⟨i + 1, h', by omega, Ent.weak ?_ ?_ ?_ ?_⟩
     all_goals simp +decide [subT, subB, zl, zk, zo, St.get, look, vI, vB, vS, cI, cS, cB, zg, roI, za, hl2, w64s (n := g.params.length) h' (by omega)]
   · have hil : i = g.params.length := by omega
     subst hil
     have e : ((g.params.length : Int) < (g.params.length : Int)) = False := by simp
     have hM : (zY g.params).length <= 1048576 := by rw [Yw]; omega
     simp +decide only [e, vB, vI, zb, za, hpin, go_sem, reduceAdd, reduceMul]
     generalize zY g.params = M at hM |-
     refine Tri.step ze ?_
     refine Tri.sched ze [(1, true), (3, true), (9, true), (0, true), (2, false), (4, false), (5, false), (6, false), (7, false), (8, false)] zL (by kernel_rfl) (fun C2 hC2 => ?_)
     have hp2 := zN hC2 hpin
     simp +decide only [c1, hx, fnC, Int.natCast_nonneg, za, zb, za, hp2, go_sem, reduceAdd, reduceMul]
     refine zd (zhe p g.body hn hk) hp2 ?_
     simp +decide only [za, zb, za, hp2, go_sem, reduceAdd, reduceMul]
     have hul := Ya p.nodes g.body
     have hum : ∀ b (hb : b < (yU p.nodes g.body).length), 0 <= (yU p.nodes g.body)[b] /\ (yU p.nodes g.body)[b].toNat < p.nodes.length := fun b hb => by
       have := zbW (List.getElem_mem hb)
       exact ⟨this.1, this.2.1⟩
     generalize yU p.nodes g.body = U at hul hum |-
     refine Tri.loop (ι := Nat) (fun i => i <= U.length) (fun i => ⟨68, [(2, .ip (za true p) 0), (5, .ref 5 [] (accV p.nodes M (U.take i)).length), (45, .ref 3045 [] U.length), (46, vI U.length), (47, vI i)], [(3045, .row 3 (row1 cI U)), (5, .row 96 (rows (varC false) (accV p.nodes M (U.take i))))]⟩) (fun i => U.length - i) 0 (by simp) ?_ ?_
     · have e1 : accV p.nodes M [] = M := by simp [accV, xZ]
       refine Ent.weak ?_ ?_ ?_ ?_ <;> simp +decide [subT, subB, zl, zk, zo, St.get, look, vI, vB, vS, cI, cS, cB, zg, roI, za, e1]
     · rintro i hi
       refine zf ze _ ?_
       by_cases h' : i < U.length
       · have e : ((i : Int) < (U.length : Int)) = True := by simp [h']
         obtain ⟨g0, g1⟩ := hum i h'
         have z0 : (0 <= U[i]) = True := eq_true g0
         have z1 : (U[i] < (p.nodes.length : Int)) = True := eq_true (by omega)
         have hlen : (accV p.nodes M (U.take i)).length <= 1048576 + i := by
           have := zeO p.nodes M (U.take i)
           rw [List.length_take] at this
           omega
         have hat : nAt p.nodes U[i] = p.nodes[U[i].toNat] := xY g1
         have hy : (rows (zg true) p.nodes).getD U[i].toNat [] = zg true p.nodes[U[i].toNat] := zi _ _ g1
         have hnx2 := ziI p.nodes M h'
         unfold letV at hnx2
         rw [hat] at hnx2
         generalize p.nodes[U[i].toNat] = x at hy hnx2
         generalize accV p.nodes M (U.take i) = M1 at hlen hnx2
         have htk := yq (varC false) M1
         have hsn := zcV M1 ⟨x.name, 0, U[i]⟩
         have hb1 : M1.length + 1 <= 140737488355328 := by omega
         have hb2 : (M1.length + 1) * 32 <= 140737488355328 := by omega
         simp only [cI, cS] at hsn
         simp +decide only [e, z0, z1, h', yf _ _ h', hy, zg, Int.natCast_nonneg, za, vB, vI, zb, za, hpin, go_sem, reduceAdd, reduceMul]
         cases hkk : x.kind == 13 with
         | false =>
           rw [hkk, if_neg (by decide), List.append_nil] at hnx2
           simp +decide only [hkk, zb, za, hpin, go_sem, reduceAdd, reduceMul]
           refine ⟨i + 1, h', by omega, Ent.weak ?_ ?_ ?_ ?_⟩
           all_goals simp +decide only [hnx2]
           all_goals simp +decide [subT, subB, zl, zk, zo, St.get, look, vI, vB, vS, cI, cS, cB, zg, roI, za, w64s (n := U.length) h' (by omega)]
         | true =>
           rw [hkk, if_pos rfl] at hnx2
           simp +decide only [hkk, hb1, hb2, htk, hsn, zb, za, hpin, go_sem, reduceAdd, reduceMul]
           refine ⟨i + 1, h', by omega, Ent.weak ?_ ?_ ?_ ?_⟩
           all_goals simp +decide only [hnx2]
           all_goals simp +decide [subT, subB, zl, zk, zo, St.get, look, vI, vB, vS, cI, cS, cB, zg, roI, za, w64s (n := U.length) h' (by omega)]
       · have hil : i = U.length := by omega
         subst hil
         have e : ((U.length : Int) < (U.length : Int)) = False := by simp
         have e5 : accV p.nodes M U = M ++ xZ p.nodes U := rfl
         simp +decide only [e, vB, vI, zb, za, hpin, go_sem, reduceAdd, reduceMul]
         refine zf ze _ ?_
         simp +decide only [e5, zb, za, hpin, go_sem, reduceAdd, reduceMul]
theorem zdg (p : ProgramD) (fn : Int) (hf : p.fns.length <= 1048576) (hn : p.nodes.length <= 1048576) (hk : ∀ x ∈ p.nodes, x.kids.length <= 1048576) (hpl : ∀ f ∈ p.fns, f.params.length <= 1048576) : zB Tryz.prog 165 [.ro (zb p), .ro (.sc (.int .i64 fn))] (fun rs st => rs = [(false, [.row false 96 (rows (varC false) (ZR p fn))])]) := by
 refine zt (fn := Tryz.f165) (c := Tryz.f165.body.getD .skip) (res := [.tm 4]) (n := 85) ze (by kernel_rfl) (by rfl) (by kernel_rfl) (by rfl) (by rfl) (by simp [zq]) (fun uf ub C hpin hpin2 hfull => ?_)
 simp only [Tryz.f165, Option.getD_some]
 have w1 : IntKind.i64.wrap ((p.fns.length : Int) - 1) = (p.fns.length : Int) - 1 := w64 (by omega) (by omega)
 have e0 : rows (varC false) ([] : List VarD) = [] := rfl
 refine Tri.step ze ?_
 simp +decide only [zb, za, hpin, go_sem, reduceAdd, reduceMul]
 refine Tri.ent ?_ (Ent.frb hfull 2)
 refine Tri.step ze ?_
 simp +decide only [zb, za, hpin, go_sem, reduceAdd, reduceMul]
 refine Tri.step ze ?_
 simp +decide only [w1, zb, za, hpin, go_sem, reduceAdd, reduceMul]
 refine zd (yC fn 0 (p.fns.length - 1)) hpin ?_
 unfold ZR
 cases h0 : inI fn 0 (p.fns.length - 1) with
 | false => simp +decide only [e0, zb, za, hpin, go_sem, reduceAdd, reduceMul]
 | true =>
 have hr := zu h0
 obtain ⟨f, rfl⟩ : ∃ f : Nat, fn = f := ⟨fn.toNat, by omega⟩
 have hfl : f < p.fns.length := by omega
 have c1 : ((f : Int) < (p.fns.length : Int)) = True := eq_true (by omega)
 have hx : (rows (fnC true) p.fns).getD f [] = fnC true p.fns[f] := zi _ _ hfl
 have hplx := hpl p.fns[f] (List.getElem_mem hfl)
 rw [yE hfl]
 generalize p.fns[f] = g at hx hplx
 simp +decide only [zb, za, hpin, go_sem, reduceAdd, reduceMul]
 refine Tri.step ze ?_
 simp +decide only [c1, hx, fnC, Int.natCast_nonneg, zb, za, hpin, go_sem, reduceAdd, reduceMul]
 refine Tri.ent ?_ (Ent.frb hfull 6)
 refine Tri.step ze ?_
 simp +decide only [zb, za, hpin, go_sem, reduceAdd, reduceMul]
 refine Tri.loop (ι := Nat) (fun i => i <= g.params.length) (fun i => ⟨85, [(2, .ip (za true p) 0), (5, .ref 5 [] (zY (g.params.take i)).length), (6, .ip (fnC true g) 0), (7, vI i)], [(5, .row 96 (rows (varC false) (zY (g.params.take i))))]⟩) (fun i => g.params.length - i) 0 (by simp) ?_ ?_
 · refine Ent.weak ?_ ?_ ?_ ?_ <;> simp +decide [subT, subB, zl, zk, zo, St.get, look, vI, vB, vS, cI, cS, cB, zg, roI, za, fnC, rows, zY]
 · rintro i hi
   refine zf ze _ ?_
   by_cases h' : i < g.params.length
   · have e : ((i : Int) < (g.params.length : Int)) = True := by simp [h']
     have hnx := zdF h'
     have hlen : (zY (g.params.take i)).length <= i := by rw [Yw]; simp; omega
     have htk := yq (varC false) (zY (g.params.take i))
     have hsn := zcV (zY (g.params.take i)) (XU g.params[i])
     have hy : (rows (zE true) g.params).getD i [] = zE true g.params[i] := zi _ _ h'
     have hl2 : (zY (g.params.take (i + 1))).length = (zY (g.params.take i)).length + 1 := by rw [hnx]; simp
     rw [<- hnx] at hsn
     simp only [XU] at hsn
     generalize zY (g.params.take i) = M at hlen htk hsn hl2
     have hb1 : M.length + 1 <= 140737488355328 := by omega
     have hb2 : (M.length + 1) * 32 <= 140737488355328 := by omega
     simp only [cI, cS] at hsn
     simp +decide only [e, fnC, za, vB, vI, zb, za, hpin, go_sem, reduceAdd, reduceMul]
     refine Tri.sched ze [(0, true), (1, true), (3, true), (7, true), (9, true), (2, true), (4, true), (5, true), (6, true), (8, false), (10, false), (11, false), (12, false), (13, false), (14, false), (15, false), (16, false)] zL (by kernel_rfl) (fun C2 hC2 => ?_)
     have hp2 := zN hC2 hpin
     simp +decide only [e, hy, zE, hb1, hb2, htk, hsn, Int.natCast_nonneg, vB, vI, zb, za, hp2, hpin, go_sem, reduceAdd, reduceMul]
     refine ⟨i + 1, h', by omega, Ent.weak ?_ ?_ ?_ ?_⟩
     all_goals simp +decide [subT, subB, zl, zk, zo, St.get, look, vI, vB, vS, cI, cS, cB, zg, roI, za, fnC, hl2, w64s (n := g.params.length) h' (by omega)]
   · have hil : i = g.params.length := by omega
     subst hil
     have e : ((g.params.length : Int) < (g.params.length : Int)) = False := by simp
     have hM : (zY g.params).length <= 1048576 := by rw [Yw]; omega
     simp +decide only [e, fnC, za, vB, vI, zb, za, hpin, go_sem, reduceAdd, reduceMul]
     generalize zY g.params = M at hM |-
     refine Tri.step ze ?_
     simp +decide only [za, zb, za, hpin, go_sem, reduceAdd, reduceMul]
     refine zd (zhd p g.body hn hk) hpin ?_
     simp +decide only [za, zb, za, hpin, go_sem, reduceAdd, reduceMul]
     refine Tri.ent ?_ (Ent.frz hfull 8)
     have hul := Ya p.nodes g.body
     have hum : ∀ b (hb : b < (yU p.nodes g.body).length), 0 <= (yU p.nodes g.body)[b] /\ (yU p.nodes g.body)[b].toNat < p.nodes.length := fun b hb => by
       have := zbW (List.getElem_mem hb)
       exact ⟨this.1, this.2.1⟩
     generalize yU p.nodes g.body = U at hul hum |-
     refine Tri.step ze ?_
     simp +decide only [za, zb, za, hpin, go_sem, reduceAdd, reduceMul]
     refine Tri.loop (ι := Nat) (fun i => i <= U.length) (fun i => ⟨85, [(2, .ip (za true p) 0), (5, .ref 5 [] (accV p.nodes M (U.take i)).length), (8, roI U), (9, vI i)], [(5, .row 96 (rows (varC false) (accV p.nodes M (U.take i))))]⟩) (fun i => U.length - i) 0 (by simp) ?_ ?_
     · have e1 : accV p.nodes M [] = M := by simp [accV, xZ]
       refine Ent.weak ?_ ?_ ?_ ?_ <;> simp +decide [subT, subB, zl, zk, zo, St.get, look, vI, vB, vS, cI, cS, cB, zg, roI, za, e1]
     · rintro i hi
       refine zf ze _ ?_
       by_cases h' : i < U.length
       · have e : ((i : Int) < (U.length : Int)) = True := by simp [h']
         obtain ⟨g0, g1⟩ := hum i h'
         have z0 : (0 <= U[i]) = True := eq_true g0
         have z1 : (U[i] < (p.nodes.length : Int)) = True := eq_true (by omega)
         have hlen : (accV p.nodes M (U.take i)).length <= 1048576 + i := by
           have := zeO p.nodes M (U.take i)
           rw [List.length_take] at this
           omega
         have hat : nAt p.nodes U[i] = p.nodes[U[i].toNat] := xY g1
         have hy : (rows (zg true) p.nodes).getD U[i].toNat [] = zg true p.nodes[U[i].toNat] := zi _ _ g1
         have hnx2 := ziI p.nodes M h'
         unfold letV at hnx2
         rw [hat] at hnx2
         generalize p.nodes[U[i].toNat] = x at hy hnx2
         generalize accV p.nodes M (U.take i) = M1 at hlen hnx2
         have htk := yq (varC false) M1
         have hsn := zcV M1 ⟨x.name, 0, U[i]⟩
         have hb1 : M1.length + 1 <= 140737488355328 := by omega
         have hb2 : (M1.length + 1) * 32 <= 140737488355328 := by omega
         simp only [cI, cS] at hsn
         simp +decide only [e, za, vB, vI, zb, za, hpin, go_sem, reduceAdd, reduceMul]
         refine Tri.sched ze [(0, true), (2, true), (3, true), (4, true), (1, true), (5, false), (6, false), (7, false), (8, false), (9, false)] zL (by kernel_rfl) (fun C2 hC2 => ?_)
         have hp2 := zN hC2 hpin
         simp +decide only [e, z0, z1, h', zr _ _ h', hy, zg, Int.natCast_nonneg, za, vB, vI, zb, za, hp2, hpin, go_sem, reduceAdd, reduceMul]
         cases hkk : x.kind == 13 with
         | false =>
           rw [hkk, if_neg (by decide), List.append_nil] at hnx2
           simp +decide only [hkk, zb, za, hpin, go_sem, reduceAdd, reduceMul]
           refine ⟨i + 1, h', by omega, Ent.weak ?_ ?_ ?_ ?_⟩
           all_goals simp +decide only [hnx2]
           all_goals simp +decide [subT, subB, zl, zk, zo, St.get, look, vI, vB, vS, cI, cS, cB, zg, roI, za, w64s (n := U.length) h' (by omega)]
         | true =>
           rw [hkk, if_pos rfl] at hnx2
           simp +decide only [hkk, zb, za, hpin, go_sem, reduceAdd, reduceMul]
           refine Tri.sched ze [(0, true), (1, true), (3, true), (4, true), (5, true), (10, true), (11, true), (12, true), (2, true), (6, true), (7, true), (8, true), (9, true), (13, false), (14, false), (15, false), (16, false), (17, false)] zL (by kernel_rfl) (fun C3 hC3 => ?_)
           have hp3 := zN hC3 hpin
           simp +decide only [e, z0, z1, h', zr _ _ h', hy, zg, hkk, hb1, hb2, htk, hsn, Int.natCast_nonneg, za, vB, vI, zb, za, hp3, hpin, go_sem, reduceAdd, reduceMul]
           refine ⟨i + 1, h', by omega, Ent.weak ?_ ?_ ?_ ?_⟩
           all_goals simp +decide only [hnx2]
           all_goals simp +decide [subT, subB, zl, zk, zo, St.get, look, vI, vB, vS, cI, cS, cB, zg, roI, za, w64s (n := U.length) h' (by omega)]
       · have hil : i = U.length := by omega
         subst hil
         have e : ((U.length : Int) < (U.length : Int)) = False := by simp
         have e5 : accV p.nodes M U = M ++ xZ p.nodes U := rfl
         simp +decide only [e, za, vB, vI, zb, za, hpin, go_sem, reduceAdd, reduceMul]
         refine zf ze _ ?_
         simp +decide only [e5, zb, za, hpin, go_sem, reduceAdd, reduceMul]
def zaD (s : ByteArray) : List VarD -> Nat -> Int
 | [], _ => -1
 | v :: r, i => if v.name = s then (i : Int) else zaD s r (i + 1)
def yg (l : List VarD) (s : ByteArray) : Int := zaD s l 0
theorem YE (s : ByteArray) : ∀ (l : List VarD) (i : Nat), zaD s l i = -1 \/ ((i : Int) <= zaD s l i /\ zaD s l i < (i + l.length : Nat))
 | [], i => Or.inl rfl
 | v :: r, i => by
   unfold zaD
   by_cases h : v.name = s
   · rw [if_pos h]; right; simp; omega
   · rw [if_neg h]
     rcases YE s r (i + 1) with h1 | h1
     · exact Or.inl h1
     · right; simp only [List.length_cons]; omega
theorem ZG (l : List VarD) (s : ByteArray) (hl : l.length <= 4194304) : zB Tryz.prog 65 [.ro (.imm 96 (rows (varC true) l)), .ro (.sc (.string s))] (fun rs st => rs = [(false, [cI (yg l s)])]) := by
 refine zt (fn := Tryz.f65) (c := Tryz.f65.body.getD .skip) (res := [.tm 4]) (n := 20) ze (by kernel_rfl) (by rfl) (by kernel_rfl) (by rfl) (by rfl) (by simp [zq]) (fun uf ub C hpin hpin2 hfull => ?_)
 simp only [Tryz.f65, Option.getD_some]
 refine Tri.step ze ?_
 simp +decide only [zb, za, hpin, go_sem, reduceAdd, reduceMul]
 refine Tri.step ze ?_
 simp +decide only [zb, za, hpin, go_sem, reduceAdd, reduceMul]
 refine Tri.loop (ι := Nat) (fun i => i <= l.length /\ yg l s = zaD s (l.drop i) i) (fun i => ⟨20, [(1, vS s), (7, .imm 96 (rows (varC true) l)), (8, vI l.length), (9, vI i)], []⟩) (fun i => l.length - i) 0 ⟨by simp, rfl⟩ ?_ ?_
 · refine Ent.weak ?_ ?_ ?_ ?_ <;> simp +decide [subT, subB, zl, zk, zo, St.get, look, vI, vB, vS, cI, cS, cB, zg, roI]
 · rintro i ⟨hi, hq⟩
   refine zf ze _ ?_
   by_cases h' : i < l.length
   · have e : ((i : Int) < (l.length : Int)) = True := by simp [h']
     rw [List.drop_eq_getElem_cons h', zaD] at hq
     simp +decide only [e, h', zi _ _ h', varC, Int.natCast_nonneg, vB, vI, vS, zb, za, hpin, go_sem, reduceAdd, reduceMul]
     by_cases hs : l[i].name = s
     · have h1 : decide (l[i].name = s) = true := decide_eq_true hs
       rw [if_pos hs] at hq
       simp +decide only [h1, hq, zb, za, hpin, go_sem, reduceAdd, reduceMul]
     · have h1 : decide (l[i].name = s) = false := decide_eq_false hs
       rw [if_neg hs] at hq
       simp +decide only [h1, zb, za, hpin, go_sem, reduceAdd, reduceMul]
       refine ⟨i + 1, ⟨h', hq⟩, by omega, Ent.weak ?_ ?_ ?_ ?_⟩
       all_goals simp +decide [subT, subB, zl, zk, zo, St.get, look, vI, vB, vS, cI, cS, cB, zg, roI, w64s (n := l.length) h' (by omega)]
   · have hil : i = l.length := by omega
     subst hil
     have e : ((l.length : Int) < (l.length : Int)) = False := by simp
     rw [List.drop_length] at hq
     have hq2 : yg l s = -1 := hq
     simp +decide only [e, hq2, vB, vI, zb, za, hpin, go_sem, reduceAdd, reduceMul]
     refine zf ze _ ?_
     simp +decide only [hq2, zb, za, hpin, go_sem, reduceAdd, reduceMul]
theorem ZF (l : List VarD) (s : ByteArray) (hl : l.length <= 4194304) : zB Tryz.prog 56 [.ro (.imm 96 (rows (varC true) l)), .ro (.sc (.string s))] (fun rs st => rs = [(false, [cI (yg l s)])]) := by
 refine zt (fn := Tryz.f56) (c := Tryz.f56.body.getD .skip) (res := [.tm 4]) (n := 20) ze (by kernel_rfl) (by rfl) (by kernel_rfl) (by rfl) (by rfl) (by simp [zq]) (fun uf ub C hpin hpin2 hfull => ?_)
 simp only [Tryz.f56, Option.getD_some]
 refine Tri.step ze ?_
 simp +decide only [zb, za, hpin, go_sem, reduceAdd, reduceMul]
 refine Tri.step ze ?_
 simp +decide only [zb, za, hpin, go_sem, reduceAdd, reduceMul]
 refine Tri.loop (ι := Nat) (fun i => i <= l.length /\ yg l s = zaD s (l.drop i) i) (fun i => ⟨20, [(0, .imm 96 (rows (varC true) l)), (1, vS s), (5, vI i)], []⟩) (fun i => l.length - i) 0 ⟨by simp, rfl⟩ ?_ ?_
 · refine Ent.weak ?_ ?_ ?_ ?_ <;> simp +decide [subT, subB, zl, zk, zo, St.get, look, vI, vB, vS, cI, cS, cB, zg, roI]
 · rintro i ⟨hi, hq⟩
   refine zf ze _ ?_
   by_cases h' : i < l.length
   · have e : ((i : Int) < (l.length : Int)) = True := by simp [h']
     rw [List.drop_eq_getElem_cons h', zaD] at hq
     simp +decide only [e, h', zi _ _ h', varC, Int.natCast_nonneg, vB, vI, vS, zb, za, hpin, go_sem, reduceAdd, reduceMul]
     by_cases hs : l[i].name = s
     · have h1 : decide (l[i].name = s) = true := decide_eq_true hs
       rw [if_pos hs] at hq
       simp +decide only [h1, hq, zb, za, hpin, go_sem, reduceAdd, reduceMul]
     · have h1 : decide (l[i].name = s) = false := decide_eq_false hs
       rw [if_neg hs] at hq
       simp +decide only [h1, zb, za, hpin, go_sem, reduceAdd, reduceMul]
       refine ⟨i + 1, ⟨h', hq⟩, by omega, Ent.weak ?_ ?_ ?_ ?_⟩
       all_goals simp +decide [subT, subB, zl, zk, zo, St.get, look, vI, vB, vS, cI, cS, cB, zg, roI, w64s (n := l.length) h' (by omega)]
   · have hil : i = l.length := by omega
     subst hil
     have e : ((l.length : Int) < (l.length : Int)) = False := by simp
     rw [List.drop_length] at hq
     have hq2 : yg l s = -1 := hq
     simp +decide only [e, hq2, vB, vI, zb, za, hpin, go_sem, reduceAdd, reduceMul]
     refine zf ze _ ?_
     simp +decide only [hq2, zb, za, hpin, go_sem, reduceAdd, reduceMul]
theorem zgH (l : List ByteArray) (s : ByteArray) (hl : l.length <= 4194304) : zB Tryz.prog 82 [.ro (.imm 9 (row1 cS l)), .ro (.sc (.string s))] (fun rs st => rs = [(false, [cB (xn l s)])]) := by
 refine zt (fn := Tryz.f82) (c := Tryz.f82.body.getD .skip) (res := [.tm 4]) (n := 17) ze (by kernel_rfl) (by rfl) (by kernel_rfl) (by rfl) (by rfl) (by simp [zq]) (fun uf ub C hpin hpin2 hfull => ?_)
 simp only [Tryz.f82, Option.getD_some]
 refine Tri.step ze ?_
 simp +decide only [zb, za, hpin, go_sem, reduceAdd, reduceMul]
 refine Tri.step ze ?_
 simp +decide only [zb, za, hpin, go_sem, reduceAdd, reduceMul]
 refine Tri.loop (ι := Nat) (fun i => i <= l.length /\ xn (l.take i) s = false) (fun i => ⟨17, [(1, vS s), (7, .imm 9 (row1 cS l)), (8, vI l.length), (9, vI i)], []⟩) (fun i => l.length - i) 0 ⟨by simp, rfl⟩ ?_ ?_
 · refine Ent.weak ?_ ?_ ?_ ?_ <;> simp +decide [subT, subB, zl, zk, zo, St.get, look, vI, vB, vS, cI, cS, cB, zg, roI]
 · rintro i ⟨hi, hq⟩
   refine zf ze _ ?_
   by_cases h' : i < l.length
   · have e : ((i : Int) < (l.length : Int)) = True := by simp [h']
     simp +decide only [e, h', zr _ _ h', Int.natCast_nonneg, vB, vI, vS, zb, za, hpin, go_sem, reduceAdd, reduceMul]
     cases h1 : decide (l[i] = s) with
     | true =>
       have ht := zay h' h1
       simp +decide only [h1, ht, zb, za, hpin, go_sem, reduceAdd, reduceMul]
     | false =>
       simp +decide only [h1, zb, za, hpin, go_sem, reduceAdd, reduceMul]
       refine ⟨i + 1, ⟨h', by rw [zaz h', hq, h1]; rfl⟩, by omega, Ent.weak ?_ ?_ ?_ ?_⟩
       all_goals simp +decide [subT, subB, zl, zk, zo, St.get, look, vI, vB, vS, cI, cS, cB, zg, roI, w64s (n := l.length) h' (by omega)]
   · have hil : i = l.length := by omega
     subst hil
     have e : ((l.length : Int) < (l.length : Int)) = False := by simp
     rw [List.take_length] at hq
     simp +decide only [e, hq, vB, vI, zb, za, hpin, go_sem, reduceAdd, reduceMul]
     refine zf ze _ ?_
     simp +decide only [hq, zb, za, hpin, go_sem, reduceAdd, reduceMul]
theorem zcF (l : List ByteArray) (s : ByteArray) (hl : l.length <= 4194304) : zB Tryz.prog 197 [.ro (.imm 9 (row1 cS l)), .ro (.sc (.string s))] (fun rs st => rs = [(false, [cB (xn l s)])]) := by
 refine zt (fn := Tryz.f197) (c := Tryz.f197.body.getD .skip) (res := [.tm 4]) (n := 18) ze (by kernel_rfl) (by rfl) (by kernel_rfl) (by rfl) (by rfl) (by simp [zq]) (fun uf ub C hpin hpin2 hfull => ?_)
 simp only [Tryz.f197, Option.getD_some]
 refine Tri.step ze ?_
 simp +decide only [zb, za, hpin, go_sem, reduceAdd, reduceMul]
 refine Tri.step ze ?_
 simp +decide only [zb, za, hpin, go_sem, reduceAdd, reduceMul]
 refine Tri.loop (ι := Nat) (fun i => i <= l.length /\ xn (l.take i) s = false) (fun i => ⟨18, [(0, .imm 9 (row1 cS l)), (1, vS s), (5, vI i)], []⟩) (fun i => l.length - i) 0 ⟨by simp, rfl⟩ ?_ ?_
 · refine Ent.weak ?_ ?_ ?_ ?_ <;> simp +decide [subT, subB, zl, zk, zo, St.get, look, vI, vB, vS, cI, cS, cB, zg, roI]
 · rintro i ⟨hi, hq⟩
   refine zf ze _ ?_
   by_cases h' : i < l.length
   · have e : ((i : Int) < (l.length : Int)) = True := by simp [h']
     simp +decide only [e, h', zr _ _ h', Int.natCast_nonneg, vB, vI, vS, zb, za, hpin, go_sem, reduceAdd, reduceMul]
     cases h1 : decide (l[i] = s) with
     | true =>
       have ht := zay h' h1
       simp +decide only [h1, ht, zb, za, hpin, go_sem, reduceAdd, reduceMul]
     | false =>
       simp +decide only [h1, zb, za, hpin, go_sem, reduceAdd, reduceMul]
       refine ⟨i + 1, ⟨h', by rw [zaz h', hq, h1]; rfl⟩, by omega, Ent.weak ?_ ?_ ?_ ?_⟩
       all_goals simp +decide [subT, subB, zl, zk, zo, St.get, look, vI, vB, vS, cI, cS, cB, zg, roI, w64s (n := l.length) h' (by omega)]
   · have hil : i = l.length := by omega
     subst hil
     have e : ((l.length : Int) < (l.length : Int)) = False := by simp
     rw [List.take_length] at hq
     simp +decide only [e, hq, vB, vI, zb, za, hpin, go_sem, reduceAdd, reduceMul]
     refine zf ze _ ?_
     simp +decide only [hq, zb, za, hpin, go_sem, reduceAdd, reduceMul]
def YX (k : Int) : Bool := inI k 2 6 || (k == 14 || k == 15)
theorem zfo (k : Int) : zB Tryz.prog 156 [.ro (.sc (.int .i64 k))] (fun rs st => rs = [(false, [cB (YX k)])]) := by
 refine zn (fn := Tryz.f156) (c := Tryz.f156.body.getD .skip) (res := [.tm 2]) (n := 13) ze (by kernel_rfl) (by rfl) (by kernel_rfl) (by rfl) (by rfl) (by simp [zq]) (fun C hpin hfull => ?_)
 simp +decide only [Tryz.f156, zb, za, hpin, go_sem, reduceAdd, reduceMul]
 refine zd (in' k 2 6) hpin ?_
 unfold YX
 cases h0 : inI k 2 6 with
 | true => simp +decide only [Bool.true_or, zb, za, hpin, go_sem, reduceAdd, reduceMul]
 | false =>
 cases h1 : k == 14 with
 | true => simp +decide only [h1, Bool.true_or, Bool.false_or, zb, za, hpin, go_sem, reduceAdd, reduceMul]
 | false => simp +decide only [h1, Bool.false_or, zb, za, hpin, go_sem, reduceAdd, reduceMul]
def zjN (p : ProgramD) (fn : Int) (x : NodeD) : Bool := inI (xJ p.fns x.name) 0 (fn - 1) && ((fAt p.fns (xJ p.fns x.name)).params.length : Int) == (x.kids.length : Int)
def ownB (p : ProgramD) (fn : Int) (nm : List ByteArray) (x : NodeD) : Bool := (!YX x.kind || xn nm x.name) && (!(x.kind == 12) || zjN p fn x)
def zep (nodes : List NodeD) (blk : Bool) (nm : List ByteArray) (kid : Int) : List ByteArray := if blk && (nAt nodes kid).kind == 13 then nm ++ [(nAt nodes kid).name] else nm
def Zz (S : Int -> List ByteArray -> Bool) (nodes : List NodeD) (blk : Bool) : List ByteArray -> List Int -> Bool
 | _, [] => true
 | nm, kid :: r => S kid nm && Zz S nodes blk (zep nodes blk nm kid) r
def zmc (p : ProgramD) (fn : Int) : Nat -> Int -> List ByteArray -> Bool
 | 0, _, _ => true
 | d + 1, k, nm => ownB p fn nm (nAt p.nodes k) && Zz (zmc p fn d) p.nodes ((nAt p.nodes k).kind == 20) nm (nAt p.nodes k).kids
def zU (p : ProgramD) (fn : Int) (k : Int) (nm : List ByteArray) : Bool := zmc p fn (k.toNat + 1) k nm
theorem zbb {S T : Int -> List ByteArray -> Bool} (nodes : List NodeD) (blk : Bool) : ∀ (l : List Int) (nm : List ByteArray), (∀ kid ∈ l, ∀ nm, S kid nm = T kid nm) -> Zz S nodes blk nm l = Zz T nodes blk nm l
 | [], _, _ => rfl
 | kid :: r, nm, h => by
   unfold Zz
   rw [h kid List.mem_cons_self, zbb nodes blk r _ (fun k hk => h k (List.mem_cons_of_mem _ hk))]
theorem zkX {p : ProgramD} (hD : Deep p.nodes) (fn : Int) : ∀ (d n : Nat) (nm : List ByteArray), n < p.nodes.length -> n < d -> zmc p fn d n nm = zU p fn n nm := by
 intro d
 induction d using Nat.strongRecOn with
 | ind d ih =>
 intro n nm hn hd
 obtain ⟨e, rfl⟩ : ∃ e, d = e + 1 := ⟨d - 1, by omega⟩
 unfold zU
 have e2 : ((n : Int).toNat + 1) = n + 1 := by omega
 rw [e2]
 unfold zmc
 rw [zI hn]
 congr 1
 apply zbb
 intro kid hk nm2
 obtain ⟨q0, q1, q2⟩ := hD.kid hn kid hk
 obtain ⟨m, rfl⟩ : ∃ m : Nat, kid = m := ⟨kid.toNat, by omega⟩
 have h1 := ih e (by omega) m nm2 (by omega) (by omega)
 by_cases hne : n = e
 · subst hne; rfl
 · have h2 := ih n (by omega) m nm2 (by omega) (by omega)
   rw [h1, h2]
theorem zcX {p : ProgramD} (hD : Deep p.nodes) (fn : Int) {n : Nat} (hn : n < p.nodes.length) (nm : List ByteArray) : zU p fn n nm = (ownB p fn nm p.nodes[n] && Zz (zU p fn) p.nodes (p.nodes[n].kind == 20) nm p.nodes[n].kids) := by
 have e2 : ((n : Int).toNat + 1) = n + 1 := by omega
 unfold zU
 rw [e2]
 conv => lhs; unfold zmc
 rw [zI hn]
 congr 1
 apply zbb
 intro kid hk nm2
 obtain ⟨q0, q1, q2⟩ := hD.kid hn kid hk
 obtain ⟨m, rfl⟩ : ∃ m : Nat, kid = m := ⟨kid.toNat, by omega⟩
 exact zkX hD fn n m nm2 (by omega) (by omega)
theorem zcJ (nodes : List NodeD) (blk : Bool) (nm : List ByteArray) (kid : Int) : (zep nodes blk nm kid).length <= nm.length + 1 := by
 unfold zep; split <;> simp
theorem zbt (l : List ByteArray) (s : ByteArray) : row1 cS l ++ [[cS s]] = row1 cS (l ++ [s]) := by simp [row1]
theorem zhq (l : List ByteArray) : (row1 cS l).all (fun x => x.all zci) = true := by simp [row1, cS, zci]
theorem zet (fns : List FnD) (j : Nat) : (∃ x, (rows (fnC true) fns).getD j [] = fnC true x) \/ (rows (fnC true) fns).getD j [] = [] := by
 by_cases h : j < fns.length
 · exact Or.inl ⟨fns[j], zi _ _ h⟩
 · right
   simp [List.getD, List.getElem?_eq_none (show (rows (fnC true) fns).length <= j by rw [zR]; omega)]
theorem zkW (p : ProgramD) (hD : Deep p.nodes) (f : Nat) (hfl : f < p.fns.length) (hf : p.fns.length <= 1048576) (hn : p.nodes.length <= 1048576) (hk : ∀ x ∈ p.nodes, x.kids.length <= 300) (n : Nat) : n < p.nodes.length -> ∀ nm : List ByteArray, nm.length + 300 * n <= 4194304 ->
   zB Tryz.prog 177 [.ro (zb p), .ro (.sc (.int .i64 f)), .ro (.sc (.int .i64 n)), .ro (.imm 9 (row1 cS nm))] (fun rs st => rs = [(false, [cB (zU p f n nm)])]) := by
 induction n using Nat.strongRecOn with
 | ind n ih =>
 intro hnl nm hnm
 have hkid := hD.kid hnl
 have hkx := hk p.nodes[n] (List.getElem_mem hnl)
 have hrec : ∀ kid ∈ p.nodes[n].kids, ∀ L : List ByteArray, L.length + 300 * kid.toNat <= 4194304 -> zB Tryz.prog 177 [.ro (zb p), .ro (.sc (.int .i64 f)), .ro (.sc (.int .i64 kid)), .ro (.imm 9 (row1 cS L))] (fun rs st => rs = [(false, [cB (zU p f kid L)])]) := fun kid hkk L hL => by
   obtain ⟨q0, q1, q2⟩ := hkid kid hkk
   have e : kid = (kid.toNat : Int) := by omega
   have := ih kid.toNat q2 (by omega) L hL
   rw [<- e] at this
   exact this
 have heq := zcX hD f hnl nm
 have hx : (rows (zg true) p.nodes).getD n [] = zg true p.nodes[n] := zi _ _ hnl
 generalize zU p f n nm = R at heq |-
 generalize p.nodes[n] = x at hkid hkx hrec heq hx
 have hc1 : ((n : Int) < (p.nodes.length : Int)) = True := eq_true (by omega)
 have wf : IntKind.i64.wrap ((f : Int) - 1) = (f : Int) - 1 := w64 (by omega) (by omega)
 have hha := zgH nm x.name (by omega)
 have hfa := XA p x.name hf
 simp only [zb] at hfa hrec
 unfold ownB at heq
 refine zt (fn := Tryz.f177) (c := Tryz.f177.body.getD .skip) (res := [.tm 8]) (n := 91) ze (by kernel_rfl) (by rfl) (by kernel_rfl) (by rfl) (by rfl) (by simp [zq]) (fun uf ub C hpin hpin2 hfull => ?_)
 simp only [Tryz.f177, Option.getD_some]
 refine Tri.step ze ?_
 simp +decide only [zb, za, hpin, go_sem, reduceAdd, reduceMul]
 refine Tri.ent ?_ (Ent.frb hfull 4)
 refine Tri.step ze ?_
 simp +decide only [hc1, hx, zg, Int.natCast_nonneg, zb, za, hpin, go_sem, reduceAdd, reduceMul]
 refine Tri.ent ?_ (Ent.frb hfull 9)
 cases hu : YX x.kind && !xn nm x.name with
 | true =>
   obtain ⟨hu1, hu2⟩ := Bool.and_eq_true_iff.1 hu
   have hu3 : xn nm x.name = false := by simpa using hu2
   have hRf : R = false := by rw [heq, hu1, hu3]; rfl
   refine Tri.step ze ?_
   simp +decide only [zb, za, hpin, go_sem, reduceAdd, reduceMul]
   refine zd (zfo x.kind) hpin ?_
   simp +decide only [hu1, zb, za, hpin, go_sem, reduceAdd, reduceMul]
   refine zd hha hpin ?_
   simp +decide only [hu3, hRf, zb, za, hpin, go_sem, reduceAdd, reduceMul]
 | false =>
 have hown : (!YX x.kind || xn nm x.name) = true := by
   cases h1 : YX x.kind <;> cases h2 : xn nm x.name <;> simp [h1, h2] at hu |-
 rw [hown, Bool.true_and] at heq
 refine Tri.stop ze ⟨91, [(1, vI f), (3, .imm 9 (row1 cS nm)), (4, .ip (za true p) 0), (8, vB false), (9, .ip (zg true x) 0)], []⟩ ?_ ?_
 · simp +decide only [zb, za, hpin, go_sem, reduceAdd, reduceMul]
   refine zd (zfo x.kind) hpin ?_
   cases hu1 : YX x.kind with
   | false => simp +decide only [zb, za, hpin, go_sem, reduceAdd, reduceMul]; refine Ent.weak ?_ ?_ ?_ ?_ <;> simp +decide [subT, subB, zl, zk, zo, St.get, look, vI, vB, vS, cI, cS, cB, zg, roI, za]
   | true =>
     have hu3 : xn nm x.name = true := by simpa [hu1] using hown
     simp +decide only [zb, za, hpin, go_sem, reduceAdd, reduceMul]
     refine zd hha hpin ?_
     simp +decide only [hu3, zb, za, hpin, go_sem, reduceAdd, reduceMul]; refine Ent.weak ?_ ?_ ?_ ?_ <;> simp +decide [subT, subB, zl, zk, zo, St.get, look, vI, vB, vS, cI, cS, cB, zg, roI, za]
 have hcall : ∀ b, zjN p f x = b -> x.kind == 12 -> R = (b && Zz (zU p ↑f) p.nodes (x.kind == 20) nm x.kids) := fun b hb h => by rw [heq, hb, h]; rfl
 have hncall : (x.kind == 12) = false -> R = Zz (zU p ↑f) p.nodes (x.kind == 20) nm x.kids := fun h => by rw [heq, h]; rfl
 have hbr : ((x.kind == 12) = true /\ zjN p f x = false) \/ ((x.kind == 12) = false \/ zjN p f x = true) := by
   cases x.kind == 12 <;> cases zjN p f x <;> simp
 unfold zjN at hcall hbr
 rcases hbr with ⟨h12, hcb⟩ | hbr
 · have hRf := hcall _ hcb h12
   rw [Bool.false_and] at hRf
   refine Tri.step ze ?_
   simp +decide only [h12, zg, za, vB, vI, zb, za, hpin, go_sem, reduceAdd, reduceMul]
   refine zd hfa hpin ?_
   generalize xJ p.fns x.name = at_ at hcb |-
   simp +decide only [za, zb, za, hpin, go_sem, reduceAdd, reduceMul]
   refine Tri.sched ze [(0, true), (1, false), (2, false), (3, false), (4, false), (5, false), (6, true), (8, true), (13, true), (7, true), (9, true), (10, true), (11, true), (12, true), (14, false), (15, false), (16, false), (17, false)] zL (by kernel_rfl) (fun C2 hC2 => ?_)
   have hp2 := zN hC2 hpin
   simp +decide only [wf, za, zb, za, hp2, go_sem, reduceAdd, reduceMul]
   refine zd (in' at_ 0 (f - 1)) hp2 ?_
   cases g0 : inI at_ 0 (f - 1) with
   | false =>
     rcases zet p.fns at_.toNat with ⟨y, hy⟩ | hy
     · simp +decide only [hy, hRf, fnC, zb, za, hp2, hpin, go_sem, reduceAdd, reduceMul]
     · simp +decide only [hy, hRf, zb, za, hp2, hpin, go_sem, reduceAdd, reduceMul]
   | true =>
     have hr := zu g0
     rw [g0, Bool.true_and] at hcb
     obtain ⟨m, rfl⟩ : ∃ m : Nat, at_ = m := ⟨at_.toNat, by omega⟩
     have hml : m < p.fns.length := by omega
     have hy : (rows (fnC true) p.fns).getD m [] = fnC true p.fns[m] := zi _ _ hml
     have hc2 : ((m : Int) < (p.fns.length : Int)) = True := eq_true (by omega)
     rw [yE hml] at hcb
     generalize p.fns[m] = y at hy hcb
     simp +decide only [hy, hc2, hcb, hRf, fnC, bne, Int.natCast_nonneg, zb, za, hp2, hpin, go_sem, reduceAdd, reduceMul]
 have heq2 : R = Zz (zU p ↑f) p.nodes (x.kind == 20) nm x.kids := by
   cases h12 : x.kind == 12 with
   | false => exact hncall h12
   | true =>
     rcases hbr with h | h
     · rw [h12] at h; cases h
     · have := hcall _ h h12
       rw [this, Bool.true_and]
 refine Tri.stop ze ⟨91, [(1, vI f), (3, .imm 9 (row1 cS nm)), (4, .ip (za true p) 0), (8, vB false), (9, .ip (zg true x) 0)], []⟩ ?_ ?_
 · cases h12 : x.kind == 12 with
   | false => simp +decide only [h12, zg, za, vB, vI, zb, za, hpin, go_sem, reduceAdd, reduceMul]; refine Ent.weak ?_ ?_ ?_ ?_ <;> simp +decide [subT, subB, zl, zk, zo, St.get, look, vI, vB, vS, cI, cS, cB, zg, roI, za]
   | true =>
     have hcb := hbr.resolve_left (by rw [h12]; decide)
     simp +decide only [h12, zg, za, vB, vI, zb, za, hpin, go_sem, reduceAdd, reduceMul]
     refine zd hfa hpin ?_
     generalize xJ p.fns x.name = at_ at hcb |-
     simp +decide only [za, zb, za, hpin, go_sem, reduceAdd, reduceMul]
     refine Tri.sched ze [(0, true), (1, false), (2, false), (3, false), (4, false), (5, false), (6, true), (8, true), (13, true), (7, true), (9, true), (10, true), (11, true), (12, true), (14, false), (15, false), (16, false), (17, false)] zL (by kernel_rfl) (fun C2 hC2 => ?_)
     have hp2 := zN hC2 hpin
     simp +decide only [wf, za, zb, za, hp2, go_sem, reduceAdd, reduceMul]
     refine zd (in' at_ 0 (f - 1)) hp2 ?_
     obtain ⟨g0, hcb⟩ := Bool.and_eq_true_iff.1 hcb
     have hr := zu g0
     rw [g0]
     obtain ⟨m, rfl⟩ : ∃ m : Nat, at_ = m := ⟨at_.toNat, by omega⟩
     have hml : m < p.fns.length := by omega
     have hy : (rows (fnC true) p.fns).getD m [] = fnC true p.fns[m] := zi _ _ hml
     have hc2 : ((m : Int) < (p.fns.length : Int)) = True := eq_true (by omega)
     rw [yE hml] at hcb
     generalize p.fns[m] = y at hy hcb
     simp +decide only [hy, hc2, hcb, fnC, bne, Int.natCast_nonneg, zb, za, hp2, hpin, go_sem, reduceAdd, reduceMul]
     refine Ent.weak ?_ ?_ ?_ ?_ <;> simp +decide [subT, subB, zl, zk, zo, St.get, look, vI, vB, vS, cI, cS, cB, zg, roI, za]
 refine Tri.step ze ?_
 have hfr := zhq nm
 have hb3 : nm.length <= 140737488355328 := by omega
 have hb4 : nm.length * 16 <= 140737488355328 := by omega
 simp +decide only [hfr, hb3, hb4, zg, za, vB, vI, zb, za, hpin, go_sem, reduceAdd, reduceMul]
 refine Tri.step ze ?_
 simp +decide only [zb, za, hpin, go_sem, reduceAdd, reduceMul]
 refine Tri.loop (ι := Nat × List ByteArray) (fun q => q.1 <= x.kids.length /\ q.2.length <= nm.length + q.1 /\ R = Zz (zU p f) p.nodes (x.kind == 20) q.2 (x.kids.drop q.1)) (fun q => ⟨91, [(1, vI f), (4, .ip (za true p) 0), (8, vB false), (9, .ip (zg true x) 0), (11, .ref 11 [] q.2.length), (57, roI x.kids), (58, vI x.kids.length), (59, vI q.1)], [(11, .row 9 (row1 cS q.2))]⟩) (fun q => x.kids.length - q.1) (0, nm) ⟨by simp, by simp, heq2⟩ ?_ ?_
 · refine Ent.weak ?_ ?_ ?_ ?_ <;> simp +decide [subT, subB, zl, zk, zo, St.get, look, vI, vB, vS, cI, cS, cB, zg, roI, za]
 · rintro ⟨i, L⟩ ⟨hi, hLl, hR⟩
   simp only at hi hLl hR |-
   refine zf ze _ ?_
   by_cases h' : i < x.kids.length
   · have e : ((i : Int) < (x.kids.length : Int)) = True := by simp [h']
     rw [List.drop_eq_getElem_cons h', Zz] at hR
     have hmem := List.getElem_mem h'
     obtain ⟨q0, q1, q2⟩ := hkid x.kids[i] hmem
     have hrs := hrec x.kids[i] hmem L (by omega)
     have htk := yL cS L
     have hkl : x.kids[i].toNat < p.nodes.length := by omega
     have z0 : (0 <= x.kids[i]) = True := eq_true q0
     have z1 : (x.kids[i] < (p.nodes.length : Int)) = True := eq_true (by omega)
     have hy : (rows (zg true) p.nodes).getD x.kids[i].toNat [] = zg true p.nodes[x.kids[i].toNat] := zi _ _ hkl
     have hgl := zcJ p.nodes (x.kind == 20) L x.kids[i]
     have hgr : zep p.nodes (x.kind == 20) L x.kids[i] = if (x.kind == 20) && p.nodes[x.kids[i].toNat].kind == 13 then L ++ [p.nodes[x.kids[i].toNat].name] else L := by unfold zep; rw [xY hkl]
     rw [hgr] at hR hgl
     generalize p.nodes[x.kids[i].toNat] = y at hy hgr hR hgl
     simp +decide only [e, h', zr _ _ h', htk, Int.natCast_nonneg, zg, za, vB, vI, zb, za, hpin, go_sem, reduceAdd, reduceMul]
     refine zd hrs hpin ?_
     cases hs : zU p f x.kids[i] L with
     | false =>
       rw [hs, Bool.false_and] at hR
       simp +decide only [hR, htk, zb, za, hpin, go_sem, reduceAdd, reduceMul]
     | true =>
       rw [hs, Bool.true_and] at hR
       cases h20 : x.kind == 20 with
       | false =>
         rw [h20, Bool.false_and, if_neg (by decide)] at hR
         rcases zbv p.nodes x.kids[i].toNat with ⟨yy, hyy⟩ | hyy
         · simp +decide only [h20, hy, zg, htk, zb, za, hpin, go_sem, reduceAdd, reduceMul]
           refine ⟨(i + 1, L), ⟨h', by simp only; omega, hR⟩, by simp only; omega, Ent.weak ?_ ?_ ?_ ?_⟩
           all_goals simp +decide [subT, subB, zl, zk, zo, St.get, look, vI, vB, vS, cI, cS, cB, zg, roI, za, htk, w64s (n := x.kids.length) h' (by omega)]
         · rw [hy] at hyy; simp [zg] at hyy
       | true =>
         rw [h20, Bool.true_and] at hR
         cases h13 : y.kind == 13 with
         | false =>
           rw [h13, if_neg (by decide)] at hR
           simp +decide only [h20, h13, z0, z1, hy, zg, htk, zb, za, hpin, go_sem, reduceAdd, reduceMul]
           refine ⟨(i + 1, L), ⟨h', by simp only; omega, hR⟩, by simp only; omega, Ent.weak ?_ ?_ ?_ ?_⟩
           all_goals simp +decide [subT, subB, zl, zk, zo, St.get, look, vI, vB, vS, cI, cS, cB, zg, roI, za, htk, w64s (n := x.kids.length) h' (by omega)]
         | true =>
           rw [h13, if_pos rfl] at hR
           have hsn := zbt L y.name
           simp only [cS] at hsn
           have hb1 : L.length + 1 <= 140737488355328 := by omega
           have hb2 : (L.length + 1) * 16 <= 140737488355328 := by omega
           simp +decide only [h20, h13, z0, z1, hy, zg, htk, hb1, hb2, hsn, zb, za, hpin, go_sem, reduceAdd, reduceMul]
           refine ⟨(i + 1, L ++ [y.name]), ⟨h', by simp; omega, hR⟩, by simp only; omega, Ent.weak ?_ ?_ ?_ ?_⟩
           all_goals simp +decide [subT, subB, zl, zk, zo, St.get, look, vI, vB, vS, cI, cS, cB, zg, roI, za, htk, w64s (n := x.kids.length) h' (by omega)]
   · have hil : i = x.kids.length := by omega
     subst hil
     have e : ((x.kids.length : Int) < (x.kids.length : Int)) = False := by simp
     rw [List.drop_length] at hR
     have hRt : R = true := hR
     simp +decide only [e, hRt, za, vB, vI, zb, za, hpin, go_sem, reduceAdd, reduceMul]
     refine zf ze _ ?_
     simp +decide only [zb, za, hpin, go_sem, reduceAdd, reduceMul]
def vr0 : VarD := ⟨⟨#[]⟩, 0, 0⟩
def zgq (l : List VarD) (i : Nat) : Bool := yg l (l.getD i vr0).name == (i : Int)
noncomputable def zdS (p : ProgramD) (fn : Int) : Bool := zG (zgq (ZR p fn)) (ZR p fn).length
def parN (l : List ParamD) : List ByteArray := l.map (fun x => x.name)
def ZV (nodes : List NodeD) (nm : List ByteArray) (l : List Int) : List ByteArray := l.foldl (zep nodes true) nm
noncomputable def xI (p : ProgramD) (i : Nat) : Bool := zdS p i && (zU p i (fAt p.fns i).body (parN (fAt p.fns i).params) && (decide ((fAt p.fns i).ret < 0) || zU p i (fAt p.fns i).ret (ZV p.nodes (parN (fAt p.fns i).params) (nAt p.nodes (fAt p.fns i).body).kids)))
noncomputable def xe (p : ProgramD) : Bool := yX p && zG (xI p) p.fns.length
theorem Zc (p : ProgramD) (fn : Int) (hpl : ∀ f ∈ p.fns, f.params.length <= 1048576) (hn : p.nodes.length <= 1048576) : (ZR p fn).length <= 2097152 := by
 unfold ZR
 split
 · rename_i h0
   have hr := zu h0
   obtain ⟨f, rfl⟩ : ∃ f : Nat, fn = f := ⟨fn.toNat, by omega⟩
   have hfl : f < p.fns.length := by omega
   rw [yE hfl, List.length_append, Yw]
   have h1 := hpl p.fns[f] (List.getElem_mem hfl)
   have h2 := Xu p.nodes (yU p.nodes p.fns[f].body)
   have h3 := Ya p.nodes p.fns[f].body
   omega
 · simp
theorem Deep.few {nodes : List NodeD} (h : Deep nodes) : ∀ x ∈ nodes, x.kids.length <= 12 := fun x hx => by
 obtain ⟨i, hi, rfl⟩ := List.getElem_of_mem hx
 have hb := XD nodes i (h.deep i hi)
 simp only [YV, Bool.and_eq_true, zbA] at hb
 obtain ⟨_, _, hs, _⟩ := hb
 rw [zI hi] at hs
 have h1 := zu hs
 have h2 := znJ nodes[i].kind
 omega
structure Right (p : ProgramD) : Prop where
 few : p.nodes.length <= 300
 fns : p.fns.length <= 8
 deep : Deep p.nodes
 fn : ∀ i (h : i < p.fns.length), ZW p p.fns[i] = true
theorem yz {p : ProgramD} (h : yX p = true) : Right p := by
 simp only [yX, Bool.and_eq_true] at h
 obtain ⟨h0, h1, h2, h3, h4⟩ := h
 have hr0 := zu h0
 have hr1 := zu h1
 refine ⟨by omega, by omega, zjH (by simpa using h2), fun i hi => ?_⟩
 have := yN.1 h3 i hi
 unfold xv at this
 rw [yE hi] at this
 exact (Bool.and_eq_true_iff.1 this).1
theorem zev {p : ProgramD} {f : FnD} (h : ZW p f = true) : f.params.length <= 3 := by
 simp only [ZW, Bool.and_eq_true] at h
 have := of_decide_eq_true h.2.1
 omega
theorem zhO {l : List ParamD} {i : Nat} (h : i < l.length) : row1 cS (parN (l.take i)) ++ [[cS l[i].name]] = row1 cS (parN (l.take (i + 1))) := by
 unfold parN
 rw [List.take_succ_eq_append_getElem h, List.map_append, zbt]; rfl
theorem xz (l : List ParamD) : (parN l).length = l.length := by simp [parN]
theorem zfM (nodes : List NodeD) (nm : List ByteArray) {l : List Int} {i : Nat} (h : i < l.length) : ZV nodes nm (l.take (i + 1)) = zep nodes true (ZV nodes nm (l.take i)) l[i] := by
 unfold ZV
 rw [List.take_succ_eq_append_getElem h, List.foldl_append]; rfl
theorem YP (nodes : List NodeD) : ∀ (l : List Int) (nm : List ByteArray), (ZV nodes nm l).length <= nm.length + l.length
 | [], nm => by simp [ZV]
 | k :: r, nm => by
   have h1 := YP nodes r (zep nodes true nm k)
   have h2 := zcJ nodes true nm k
   unfold ZV at h1 |-
   rw [List.foldl_cons, List.length_cons]; omega
theorem zgw (p : ProgramD) (fn : Int) (hf : p.fns.length <= 1048576) (hn : p.nodes.length <= 1048576) (hk : ∀ x ∈ p.nodes, x.kids.length <= 1048576) (hpl : ∀ f ∈ p.fns, f.params.length <= 1048576) : zB Tryz.prog 176 [.ro (zb p), .ro (.sc (.int .i64 fn))] (fun rs st => rs = [(false, [cB (zdS p fn)])]) := by
 have hvs := zdh p fn hf hn hk hpl
 have hvl := Zc p fn hpl hn
 unfold zdS
 generalize ZR p fn = l at hvs hvl |-
 have hva := fun s => ZG l s (by omega)
 simp only [zb] at hvs
 refine zt (fn := Tryz.f176) (c := Tryz.f176.body.getD .skip) (res := [.tm 4]) (n := 25) ze (by kernel_rfl) (by rfl) (by kernel_rfl) (by rfl) (by rfl) (by simp [zq]) (fun uf ub C hpin hpin2 hfull => ?_)
 simp only [Tryz.f176, Option.getD_some]
 refine Tri.step ze ?_
 simp +decide only [zb, za, hpin, go_sem, reduceAdd, reduceMul]
 refine Tri.ent ?_ (Ent.frb hfull 2)
 refine Tri.step ze ?_
 simp +decide only [zb, za, hpin, go_sem, reduceAdd, reduceMul]
 refine zd hvs hpin ?_
 simp +decide only [zb, za, hpin, go_sem, reduceAdd, reduceMul]
 refine Tri.ent ?_ (Ent.frz hfull 5)
 refine Tri.step ze ?_
 simp +decide only [zb, za, hpin, go_sem, reduceAdd, reduceMul]
 refine Tri.loop (ι := Nat) (fun i => i <= l.length /\ zG (zgq l) i = true) (fun i => ⟨25, [(4, vB false), (5, .imm 96 (rows (varC true) l)), (11, .imm 96 (rows (varC true) l)), (12, vI l.length), (13, vI i)], []⟩) (fun i => l.length - i) 0 ⟨by simp, rfl⟩ ?_ ?_
 · refine Ent.weak ?_ ?_ ?_ ?_ <;> simp +decide [subT, subB, zl, zk, zo, St.get, look, vI, vB, vS, cI, cS, cB, zg, roI]
 · rintro i ⟨hi, hq⟩
   refine zf ze _ ?_
   by_cases h' : i < l.length
   · have e : ((i : Int) < (l.length : Int)) = True := by simp [h']
     have hov : zgq l i = (yg l l[i].name == (i : Int)) := by simp [zgq, List.getD, h']
     simp +decide only [e, h', zi _ _ h', varC, Int.natCast_nonneg, vB, vI, zb, za, hpin, go_sem, reduceAdd, reduceMul]
     refine zd (hva l[i].name) hpin ?_
     cases hz : yg l l[i].name == (i : Int) with
     | false =>
       have hff : zG (zgq l) l.length = false := zy h' (by rw [hov, hz])
       simp +decide only [hz, hff, bne, zb, za, hpin, go_sem, reduceAdd, reduceMul]
     | true =>
       simp +decide only [hz, bne, zb, za, hpin, go_sem, reduceAdd, reduceMul]
       refine ⟨i + 1, ⟨h', by rw [zM, hq, hov, hz]; rfl⟩, by omega, Ent.weak ?_ ?_ ?_ ?_⟩
       all_goals simp +decide [subT, subB, zl, zk, zo, St.get, look, vI, vB, vS, cI, cS, cB, zg, roI, w64s (n := l.length) h' (by omega)]
   · have hil : i = l.length := by omega
     subst hil
     have e : ((l.length : Int) < (l.length : Int)) = False := by simp
     simp +decide only [e, vB, vI, zb, za, hpin, go_sem, reduceAdd, reduceMul]
     refine zf ze _ ?_
     simp +decide only [hq, zb, za, hpin, go_sem, reduceAdd, reduceMul]
theorem Xd (p : ProgramD) (hf : p.fns.length <= 1048576) (hn : p.nodes.length <= 1048576) (hk : ∀ x ∈ p.nodes, x.kids.length <= 1048576) (hpl : ∀ f ∈ p.fns, f.params.length <= 1048576) : zB Tryz.prog 116 [.ro (zb p)] (fun rs st => rs = [(false, [cB (xe p)])]) := by
 have hps := zeY p hf hn hk hpl
 have hns := fun fn => zgw p fn hf hn hk hpl
 simp only [zb] at hps hns
 unfold xe
 refine zt (fn := Tryz.f116) (c := Tryz.f116.body.getD .skip) (res := [.tm 2]) (n := 87) ze (by kernel_rfl) (by rfl) (by kernel_rfl) (by rfl) (by rfl) (by simp [zq]) (fun uf ub C hpin hpin2 hfull => ?_)
 simp only [Tryz.f116, Option.getD_some]
 refine Tri.step ze ?_
 simp +decide only [zb, za, hpin, go_sem, reduceAdd, reduceMul]
 refine Tri.ent ?_ (Ent.frb hfull 1)
 refine Tri.step ze ?_
 simp +decide only [zb, za, hpin, go_sem, reduceAdd, reduceMul]
 refine zd hps hpin ?_
 cases h0 : yX p with
 | false => simp +decide only [zb, za, hpin, go_sem, reduceAdd, reduceMul]
 | true =>
 have hG := yz h0
 simp +decide only [zb, za, hpin, go_sem, reduceAdd, reduceMul]
 refine Tri.step ze ?_
 simp +decide only [zb, za, hpin, go_sem, reduceAdd, reduceMul]
 refine Tri.loop (ι := Nat) (fun i => i <= p.fns.length /\ zG (xI p) i = true) (fun i => ⟨87, [(1, .ip (za true p) 0), (2, vB false), (14, .imm 104 (rows (fnC true) p.fns)), (15, vI p.fns.length), (16, vI i)], []⟩) (fun i => p.fns.length - i) 0 ⟨by simp, rfl⟩ ?_ ?_
 · refine Ent.weak ?_ ?_ ?_ ?_ <;> simp +decide [subT, subB, zl, zk, zo, St.get, look, vI, vB, vS, cI, cS, cB, zg, roI, za]
 · rintro i ⟨hi, hq⟩
   refine zf ze _ ?_
   by_cases h' : i < p.fns.length
   · have e : ((i : Int) < (p.fns.length : Int)) = True := by simp [h']
     have hx : (rows (fnC true) p.fns).getD i [] = fnC true p.fns[i] := zi _ _ h'
     have hok := hG.fn i h'
     have hfe : xI p i = (zdS p i && (zU p i p.fns[i].body (parN p.fns[i].params) && (decide (p.fns[i].ret < 0) || zU p i p.fns[i].ret (ZV p.nodes (parN p.fns[i].params) (nAt p.nodes p.fns[i].body).kids)))) := by unfold xI; rw [yE h']
     have hplx := hpl p.fns[i] (List.getElem_mem h')
     have hp3 := zev hok
     obtain ⟨⟨b0, b1⟩, hret⟩ := xp hok
     generalize p.fns[i] = g at hx hok hfe hplx hp3 b0 b1 hret
     simp +decide only [e, h', hx, fnC, Int.natCast_nonneg, za, vB, vI, zb, za, hpin, go_sem, reduceAdd, reduceMul]
     refine zd (hns i) hpin ?_
     cases g0 : zdS p i with
     | false =>
       have hff : zG (xI p) p.fns.length = false := zy h' (by rw [hfe, g0]; rfl)
       simp +decide only [hff, zb, za, hpin, go_sem, reduceAdd, reduceMul]
     | true =>
     rw [g0, Bool.true_and] at hfe
     simp +decide only [zb, za, hpin, go_sem, reduceAdd, reduceMul]
     refine Tri.loop (ι := Nat) (fun j => j <= g.params.length) (fun j => ⟨87, [(1, .ip (za true p) 0), (2, vB false), (3, vI i), (4, .bp 4 0), (14, .imm 104 (rows (fnC true) p.fns)), (15, vI p.fns.length), (16, vI i), (5, .ref 5 [] (parN (g.params.take j)).length), (26, .imm 107 (rows (zE true) g.params)), (27, vI g.params.length), (28, vI j)], [(5, .row 9 (row1 cS (parN (g.params.take j)))), (4, .box (fnC true g))]⟩) (fun j => g.params.length - j) 0 (by simp) ?_ ?_
     · refine Ent.weak ?_ ?_ ?_ ?_ <;> simp +decide [subT, subB, zl, zk, zo, St.get, look, vI, vB, vS, cI, cS, cB, zg, roI, za, fnC, parN, row1]
     · rintro j hj
       refine zf ze _ ?_
       by_cases hj' : j < g.params.length
       · have e2 : ((j : Int) < (g.params.length : Int)) = True := by simp [hj']
         have hy : (rows (zE true) g.params).getD j [] = zE true g.params[j] := zi _ _ hj'
         have hsn := zhO hj'
         have hll : (parN (g.params.take j)).length <= 3 := by rw [xz, List.length_take]; omega
         have hl2 : (parN (g.params.take (j + 1))).length = (parN (g.params.take j)).length + 1 := by rw [xz, xz, List.length_take, List.length_take]; omega
         have htk := yL cS (parN (g.params.take j))
         have hb1 : (parN (g.params.take j)).length + 1 <= 140737488355328 := by omega
         have hb2 : ((parN (g.params.take j)).length + 1) * 16 <= 140737488355328 := by omega
         simp only [cS] at hsn
         simp +decide only [e2, hy, zE, hb1, hb2, htk, hsn, Int.natCast_nonneg, za, fnC, vB, vI, zb, za, hpin, go_sem, reduceAdd, reduceMul]
         refine ⟨j + 1, hj', by omega, Ent.weak ?_ ?_ ?_ ?_⟩
         all_goals simp +decide [subT, subB, zl, zk, zo, St.get, look, vI, vB, vS, cI, cS, cB, zg, roI, za, fnC, hl2, w64s (n := g.params.length) hj' (by omega)]
       · have hjl : j = g.params.length := by omega
         subst hjl
         have e2 : ((g.params.length : Int) < (g.params.length : Int)) = False := by simp
         have hnl : (parN g.params).length <= 3 := by rw [xz]; omega
         obtain ⟨b, hbb⟩ : ∃ b : Nat, g.body = b := ⟨g.body.toNat, by omega⟩
         have hbl : b < p.nodes.length := by omega
         have hxb : (rows (zg true) p.nodes).getD b [] = zg true p.nodes[b] := zi _ _ hbl
         have hcb : ((b : Int) < (p.nodes.length : Int)) = True := eq_true (by omega)
         have hk3 : ∀ x ∈ p.nodes, x.kids.length <= 300 := fun x hx => by have := hG.deep.few x hx; omega
         have hkf := hG.deep.few p.nodes[b] (List.getElem_mem hbl)
         have hkid := hG.deep.kid hbl
         have hfew := hG.few
         have hsee : ∀ (n : Nat), n < p.nodes.length -> ∀ nm : List ByteArray, nm.length <= 1000 -> _ := fun n hnl nm hnm => zkW p hG.deep i h' hf hn hk3 n hnl nm (by omega)
         simp only [zb] at hsee
         rw [hbb, zI hbl] at hfe
         generalize hnm : parN g.params = nm0 at hnl hfe
         have htk := yL cS nm0
         have hs1 := hsee b hbl nm0 (by omega)
         simp +decide only [e2, hnm, hbb, htk, za, fnC, vB, vI, zb, za, hpin, go_sem, reduceAdd, reduceMul]
         refine zd hs1 hpin ?_
         cases g1 : zU p i b nm0 with
         | false =>
           rw [g1, Bool.false_and] at hfe
           have hff : zG (xI p) p.fns.length = false := zy h' hfe
           simp +decide only [hff, htk, zb, za, hpin, go_sem, reduceAdd, reduceMul]
         | true =>
         rw [g1, Bool.true_and] at hfe
         generalize p.nodes[b] = x at hxb hkf hkid hfe
         simp +decide only [hcb, hxb, zg, htk, Int.natCast_nonneg, zb, za, hpin, go_sem, reduceAdd, reduceMul]
         refine Tri.loop (ι := Nat) (fun k => k <= x.kids.length) (fun k => ⟨87, [(1, .ip (za true p) 0), (2, vB false), (3, vI i), (4, .bp 4 0), (14, .imm 104 (rows (fnC true) p.fns)), (15, vI p.fns.length), (16, vI i), (5, .ref 5 [] (ZV p.nodes nm0 (x.kids.take k)).length), (51, roI x.kids), (52, vI x.kids.length), (53, vI k)], [(5, .row 9 (row1 cS (ZV p.nodes nm0 (x.kids.take k)))), (4, .box (fnC true g))]⟩) (fun k => x.kids.length - k) 0 (by simp) ?_ ?_
         · have e9 : ZV p.nodes nm0 [] = nm0 := rfl
           refine Ent.weak ?_ ?_ ?_ ?_ <;> simp +decide [subT, subB, zl, zk, zo, St.get, look, vI, vB, vS, cI, cS, cB, zg, roI, za, fnC, e9, hbb]
         · rintro k hkk
           refine zf ze _ ?_
           have hgl := YP p.nodes (x.kids.take k) nm0
           rw [List.length_take] at hgl
           by_cases hk' : k < x.kids.length
           · have e3 : ((k : Int) < (x.kids.length : Int)) = True := by simp [hk']
             obtain ⟨q0, q1, q2⟩ := hkid x.kids[k] (List.getElem_mem hk')
             have hkl : x.kids[k].toNat < p.nodes.length := by omega
             have z0 : (0 <= x.kids[k]) = True := eq_true q0
             have z1 : (x.kids[k] < (p.nodes.length : Int)) = True := eq_true (by omega)
             have hy : (rows (zg true) p.nodes).getD x.kids[k].toNat [] = zg true p.nodes[x.kids[k].toNat] := zi _ _ hkl
             have hnx := zfM p.nodes nm0 hk'
             unfold zep at hnx
             rw [xY hkl, Bool.true_and] at hnx
             generalize p.nodes[x.kids[k].toNat] = y at hy hnx
             generalize hLL : ZV p.nodes nm0 (x.kids.take k) = L at hnx hgl
             have htk2 := yL cS L
             have hsn := zbt L y.name
             simp only [cS] at hsn
             have hb1 : L.length + 1 <= 140737488355328 := by omega
             have hb2 : (L.length + 1) * 16 <= 140737488355328 := by omega
             simp +decide only [e3, z0, z1, hy, zg, zr _ _ hk', Int.natCast_nonneg, za, fnC, vB, vI, zb, za, hpin, go_sem, reduceAdd, reduceMul]
             cases h13 : y.kind == 13 with
             | false =>
               rw [h13, if_neg (by decide)] at hnx
               simp +decide only [h13, zb, za, hpin, go_sem, reduceAdd, reduceMul]
               refine ⟨k + 1, hk', by omega, Ent.weak ?_ ?_ ?_ ?_⟩
               all_goals simp +decide only [hnx]
               all_goals simp +decide [subT, subB, zl, zk, zo, St.get, look, vI, vB, vS, cI, cS, cB, zg, roI, za, fnC, w64s (n := x.kids.length) hk' (by omega)]
             | true =>
               rw [h13, if_pos rfl] at hnx
               simp +decide only [h13, z0, z1, hy, zg, hb1, hb2, htk2, hsn, zb, za, hpin, go_sem, reduceAdd, reduceMul]
               refine ⟨k + 1, hk', by omega, Ent.weak ?_ ?_ ?_ ?_⟩
               all_goals simp +decide only [hnx]
               all_goals simp +decide [subT, subB, zl, zk, zo, St.get, look, vI, vB, vS, cI, cS, cB, zg, roI, za, fnC, w64s (n := x.kids.length) hk' (by omega)]
           · have hkl : k = x.kids.length := by omega
             subst hkl
             have e3 : ((x.kids.length : Int) < (x.kids.length : Int)) = False := by simp
             rw [List.take_length] at *
             generalize ZV p.nodes nm0 x.kids = L at hfe hgl |-
             have htk2 := yL cS L
             simp +decide only [e3, htk2, za, fnC, vB, vI, zb, za, hpin, go_sem, reduceAdd, reduceMul]
             rcases hret with hneg | ⟨x0, x1⟩
             · have y0 : (0 <= g.ret) = False := eq_false (by omega)
               have y1 : decide (g.ret < 0) = true := decide_eq_true hneg
               rw [y1, Bool.true_or] at hfe
               simp +decide only [y0, zb, za, hpin, go_sem, reduceAdd, reduceMul]
               refine ⟨i + 1, ⟨h', by rw [zM, hq, hfe]; rfl⟩, by omega, Ent.weak ?_ ?_ ?_ ?_⟩
               all_goals simp +decide [subT, subB, zl, zk, zo, St.get, look, vI, vB, vS, cI, cS, cB, zg, roI, za, w64s (n := p.fns.length) h' (by omega)]
             · have y0 : (0 <= g.ret) = True := eq_true x0
               have y1 : decide (g.ret < 0) = false := decide_eq_false (by omega)
               rw [y1, Bool.false_or] at hfe
               obtain ⟨r, hrr⟩ : ∃ r : Nat, g.ret = r := ⟨g.ret.toNat, by omega⟩
               have hrl : r < p.nodes.length := by omega
               have hs2 := hsee r hrl L (by omega)
               rw [hrr] at hfe
               simp +decide only [y0, hrr, htk2, Int.natCast_nonneg, zb, za, hpin, go_sem, reduceAdd, reduceMul]
               refine zd hs2 hpin ?_
               cases g2 : zU p i r L with
               | false =>
                 rw [g2] at hfe
                 have hff : zG (xI p) p.fns.length = false := zy h' hfe
                 simp +decide only [hff, htk2, zb, za, hpin, go_sem, reduceAdd, reduceMul]
               | true =>
                 rw [g2] at hfe
                 simp +decide only [htk2, zb, za, hpin, go_sem, reduceAdd, reduceMul]
                 refine ⟨i + 1, ⟨h', by rw [zM, hq, hfe]; rfl⟩, by omega, Ent.weak ?_ ?_ ?_ ?_⟩
                 all_goals simp +decide [subT, subB, zl, zk, zo, St.get, look, vI, vB, vS, cI, cS, cB, zg, roI, za, w64s (n := p.fns.length) h' (by omega)]
   · have hil : i = p.fns.length := by omega
     subst hil
     have e : ((p.fns.length : Int) < (p.fns.length : Int)) = False := by simp
     simp +decide only [e, vB, vI, zb, za, hpin, go_sem, reduceAdd, reduceMul]
     refine zf ze _ ?_
     simp +decide only [hq, zb, za, hpin, go_sem, reduceAdd, reduceMul]
inductive Sch where
 | done
 | one (i : Nat) (t : Bool) (r : Sch)
 | two (i : Nat) (r : Sch) (j : Nat) (s : Sch)
 | three (i : Nat) (r : Sch) (j : Nat) (s : Sch) (k : Nat) (q : Sch)
def zgT (P : Program) (C : Cx) (ops : Array Oper) (i : Nat) (st : St) (K : St -> Prop) : Prop := match ops[i]? with
 | some o => ZO st o /\ zjR P C ops st o K
 | none => False
def zbk (P : Program) (C : Cx) (ops : Array Oper) : Sch -> St -> (St -> Prop) -> Prop
 | .done, st, K => K st
 | .one i t r, st, K => match ops[i]? with
   | some o => ZO st o /\ match t with
     | true => (match zmi P ops st o with
       | some (s, v) => s /\ ev (b := ⟨fun st' => zbk P C ops r st' K⟩) (Yu st o.dst v)
       | none => False)
     | false => zjR P C ops st o (fun st' => zbk P C ops r st' K)
   | none => False
 | .two i r j s, st, K => zgT P C ops i st (fun st' => zbk P C ops r st' K) /\ zgT P C ops j st (fun st' => zbk P C ops s st' K)
 | .three i r j s k q, st, K => zgT P C ops i st (fun st' => zbk P C ops r st' K) /\ zgT P C ops j st (fun st' => zbk P C ops s st' K) /\ zgT P C ops k st (fun st' => zbk P C ops q st' K)
def zbc (ops : Array Oper) : Sch -> Array Bool -> Nat -> Bool
 | .done, l, n => (Region.ready .any ops l).isEmpty && n == 0
 | .one i t r, l, n + 1 => (match t with
   | true => (Region.ready .any ops l).contains i && Region.free .any ops l i
   | false => Region.ready .any ops l == [i]) && zbc ops r (l.setIfInBounds i true) n
 | .two i r j s, l, n + 1 => Region.ready .any ops l == [i, j] && (zbc ops r (l.setIfInBounds i true) n && zbc ops s (l.setIfInBounds j true) n)
 | .three i r j s k q, l, n + 1 => Region.ready .any ops l == [i, j, k] && (zbc ops r (l.setIfInBounds i true) n && (zbc ops s (l.setIfInBounds j true) n && zbc ops q (l.setIfInBounds k true) n))
 | _, _, 0 => false
def zoJ (ops : Array Oper) (sch : Sch) : Bool := Region.noSelect ops && zbc ops sch (Array.replicate ops.size false) ops.size
section
variable {P : Program} {w w1 : World} {C : Cx} {X : Nat -> Prop} {gh gh1 : Gh} {st : St} {a : Act} {v : V} {u : Value} {ob : List (Nat × Ob)} {S : Nat -> Prop} {K : St -> Prop}
theorem zjS (hz : Za P) {ops : Array Oper} {Q : Exit -> St -> Prop} {w : World} {gh : Gh} {C0 : Cx} {X0 : Nat -> Prop} {st0 : St} {a0 : Act} (h0 : Rep P C0 X0 st0 a0 w gh) (hns : Region.noSelect ops = true) :
   ∀ (sch : Sch) (l : Array Bool) (n : Nat) {st : St} {a : Act} {w1 : World} {gh1 : Gh}, Rep P (C0.here w gh.S) No st a w1 gh1 -> zbc ops sch l n = true -> zbk P (C0.here w gh.S) ops sch st (Q .normal) ->
   wpAnyH P .any ops (fun e a' w' => match e with | .normal => Up P (C0.here w gh.S) (Q .normal) a' w' | _ => False) (fun w' => ∀ k, gh.S k -> w'.heap[k]? = w.heap[k]?) n l a w1 := by
 have stepOf : ∀ (i : Nat) (r : Sch) (l : Array Bool) (n : Nat) {st : St} {a : Act} {w1 : World} {gh1 : Gh}, Rep P (C0.here w gh.S) No st a w1 gh1 ->
     (∀ {st : St} {a : Act} {w1 : World} {gh1 : Gh}, Rep P (C0.here w gh.S) No st a w1 gh1 -> zbk P (C0.here w gh.S) ops r st (Q .normal) -> wpAnyH P .any ops (fun e a' w' => match e with | .normal => Up P (C0.here w gh.S) (Q .normal) a' w' | _ => False) (fun w' => ∀ k, gh.S k -> w'.heap[k]? = w.heap[k]?) n (l.setIfInBounds i true) a w1) ->
     zgT P (C0.here w gh.S) ops i st (fun st' => zbk P (C0.here w gh.S) ops r st' (Q .normal)) ->
     wpOp P ops (fun e a' w' => match e with | .normal => Up P (C0.here w gh.S) (Q .normal) a' w' | _ => False) i (fun a' w' => (∀ k, gh.S k -> w'.heap[k]? = w.heap[k]?) /\ wpAnyH P .any ops (fun e a' w' => match e with | .normal => Up P (C0.here w gh.S) (Q .normal) a' w' | _ => False) (fun w' => ∀ k, gh.S k -> w'.heap[k]? = w.heap[k]?) n (l.setIfInBounds i true) a' w') a w1 := fun i r l n st a w1 gh1 h hrec hk => by
   unfold zgT at hk
   split at hk
   case h_2 => exact hk.elim
   rename_i o ho
   obtain ⟨hdst, hk⟩ := hk
   unfold wpOp
   simp only [ho]
   have hop := zbZ (Q := fun e a' w' => match e with | .normal => Up P (C0.here w gh.S) (Q .normal) a' w' | _ => False) hz h hdst hk
   have next : ∀ a' w', Up P (C0.here w gh.S) (fun st' => zbk P (C0.here w gh.S) ops r st' (Q .normal)) a' w' -> (∀ k, gh.S k -> w'.heap[k]? = w.heap[k]?) /\
       wpAnyH P .any ops (fun e a' w' => match e with | .normal => Up P (C0.here w gh.S) (Q .normal) a' w' | _ => False) (fun w' => ∀ k, gh.S k -> w'.heap[k]? = w.heap[k]?) n (l.setIfInBounds i true) a' w' := fun a' w' ⟨st', gh', hk', h'⟩ =>
     ⟨h0.lent h', hrec h' hk'⟩
   split
   · rename_i hw
     rw [if_pos hw] at hop
     exact Or.inl (Oper.wp_mono next hop)
   · rename_i hw
     rw [if_neg hw] at hop
     exact next _ _ hop
 intro sch
 induction sch with
 | done =>
   intro l n st a w1 gh1 h hb hk
   simp only [zbc, Bool.and_eq_true, List.isEmpty_iff] at hb
   exact wpAnyH_done hb.1 ⟨st, gh1, hk, h⟩ _
 | one i t r ih =>
   intro l n st a w1 gh1 h hb hk
   cases n with
   | zero => simp [zbc] at hb
   | succ n =>
   simp only [zbc, Bool.and_eq_true] at hb
   obtain ⟨hb1, hb2⟩ := hb
   cases t with
   | true =>
     unfold zbk at hk
     split at hk
     case h_2 => exact hk.elim
     rename_i o ho
     obtain ⟨hdst, hk⟩ := hk
     simp only at hk hb1
     simp only [Bool.and_eq_true] at hb1
     split at hk
     case h_2 => exact hk.elim
     rename_i s v hp
     obtain ⟨y, hy, hv⟩ := zdv (Sw := fun w' => ∀ k, gh.S k -> w'.heap[k]? = w.heap[k]?) hz h (fun w' hw k hk => by
       have h1 := h.sZ k hk
       exact (hw k h1).trans (h0.lent h k h1).symm) hp hk.1
     exact wpAnyH_take ho hns hb1.2 hb1.1 (fun c a w hq => hq.elim) hy (h0.lent h) (ih _ _ (h.dst (zbL hdst) hv) hb2 hk.2)
   | false =>
     simp only at hb1
     refine wpAnyH_all (rs := [i]) (by simpa using hb1) (by simp) (fun i' hi' => ?_)
     rw [List.mem_singleton] at hi'
     subst hi'
     refine stepOf i' r l n h (fun h' hk' => ih _ _ h' hb2 hk') ?_
     unfold zbk at hk
     unfold zgT
     split at hk
     · exact hk
     · exact hk.elim
 | two i r j s ih1 ih2 =>
   intro l n st a w1 gh1 h hb hk
   cases n with
   | zero => simp [zbc] at hb
   | succ n =>
   simp only [zbc, Bool.and_eq_true, beq_iff_eq] at hb
   obtain ⟨hb1, hb2, hb3⟩ := hb
   obtain ⟨hk1, hk2⟩ := hk
   refine wpAnyH_all (rs := [i, j]) hb1 (by simp) (fun i' hi' => ?_)
   simp only [List.mem_cons, List.not_mem_nil, or_false] at hi'
   rcases hi' with rfl | rfl
   · exact stepOf _ r l n h (fun h' hk' => ih1 _ _ h' hb2 hk') hk1
   · exact stepOf _ s l n h (fun h' hk' => ih2 _ _ h' hb3 hk') hk2
 | three i r j s k q ih1 ih2 ih3 =>
   intro l n st a w1 gh1 h hb hk
   cases n with
   | zero => simp [zbc] at hb
   | succ n =>
   simp only [zbc, Bool.and_eq_true, beq_iff_eq] at hb
   obtain ⟨hb1, hb2, hb3, hb4⟩ := hb
   obtain ⟨hk1, hk2, hk3⟩ := hk
   refine wpAnyH_all (rs := [i, j, k]) hb1 (by simp) (fun i' hi' => ?_)
   simp only [List.mem_cons, List.not_mem_nil, or_false] at hi'
   rcases hi' with rfl | rfl | rfl
   · exact stepOf _ r l n h (fun h' hk' => ih1 _ _ h' hb2 hk') hk1
   · exact stepOf _ s l n h (fun h' hk' => ih2 _ _ h' hb3 hk') hk2
   · exact stepOf _ q l n h (fun h' hk' => ih3 _ _ h' hb4 hk') hk3
theorem Tri.fork (hz : Za P) {id : Nat} {ops : Array Oper} {Q : Exit -> St -> Prop} (sch : Sch) (hm : P.follows .mixedOrders = true) (hb : zoJ ops sch = true) (hk : ∀ C', C'.pin = C.pin -> zbk P C' ops sch st (Q .normal)) : Tri P C st (.region id ops true) Q := fun a w gh hR => by
 simp only [zoJ, Bool.and_eq_true] at hb
 obtain ⟨hb1, hb2⟩ := hb
 have hd := hR.drew
 refine Code.wp_mono (fun e a' w' hq => ?_) (wp_region_held (S := fun w' => ∀ k, gh.S k -> w'.heap[k]? = w.drew.heap[k]?) hm ?_ (Q := fun e a' w' => match e with | .normal => Up P (C.here w.drew gh.S) (Q .normal) a' w' | _ => False))
 · cases e with
   | normal =>
     obtain ⟨st', gh', hk', h'⟩ := hq
     exact ⟨st', gh', hk', hd.back h'⟩
   | _ => exact hq.elim
 · exact zjS hz hd hb1 sch (Array.replicate ops.size false) ops.size hd.here hb2 (Q := Q) (hk _ rfl)
def St.shb (st : St) (o : Nat) : St := match look st.ob o with
 | some (.box cs) => st.swap o (.box (shL cs))
 | _ => st
def Gh.shb (gh : Gh) (o : Nat) : Gh := { gh with S := fun k => gh.S k \/ (gh.F o k /\ k ≠ gh.bb o), F := fun o' k => if o' = o then k = gh.bb o else gh.F o' k }
theorem Ro.own {d : D} (h : Ro P w S (shD d) u) : Ow P w S (shD d) u (fun _ => False) := by
 cases d with
 | dead => exact .dead h.one
 | sc v => simp only [shD] at h |-; cases h with | sc h => exact .sc h
 | row sh e es => simp only [shD] at h |-; exact .shared h
theorem VR.shb (h : VR P w gh st.ob v u) {o : Nat} {cs : List D} (ho : look st.ob o = some (.box cs)) : VR P w (gh.shb o) (st.swap o (.box (shL cs))).ob (Zl o v) u := by
 have hne : ∀ o' x, o' ≠ o -> look st.ob o' = some x -> look (st.swap o (.box (shL cs))).ob o' = some x := fun o' x hne hx => by
   simp only [St.swap, look, if_neg hne]; rw [yk, if_neg (fun e => hne e.symm)]; exact hx
 have hself : look (st.swap o (.box (shL cs))).ob o = some (.box (shL cs)) := by simp [St.swap, look]
 induction h with
 | dead => exact .dead
 | und => exact .und
 | sc h => exact .sc h
 | nil => exact .nil
 | imm h => exact .imm (h.mono (fun k hk => Or.inl hk))
 | @ref o' n p y e es A c hx hn hle =>
   by_cases e1 : o' = o
   · subst e1
     rw [ho] at hx; cases hx
     cases p with
     | nil => have := hn.sub; simp [subO] at this
     | cons z p => simp only [Zl, if_true]; exact .dead
   · have : Zl o (.ref o' p n) = .ref o' p n := by cases p <;> simp [Zl, e1]
     rw [this]
     exact .ref (hne o' y e1 hx) (hn.ghc rfl rfl rfl) hle
 | @bp o' j cs' hx =>
   by_cases e1 : o' = o
   · subst e1
     exact VR.bp (gh := gh.shb o') hself
   · exact VR.bp (gh := gh.shb o) (hne o' _ e1 hx)
 | @rp o' i j p y e es ad c hx hn =>
   by_cases e1 : o' = o
   · subst e1
     rw [ho] at hx; cases hx
     cases p with
     | nil => have := hn.sub; simp [subO] at this
     | cons z p => simp only [Zl, if_true]; exact .dead
   · have : Zl o (.rp o' p i j) = .rp o' p i j := by cases p <;> simp [Zl, e1]
     rw [this]
     exact .rp (hne o' y e1 hx) (hn.ghc rfl rfl rfl)
 | ip U hs h => exact .ip U (Or.inl hs) (fun q d hd => ⟨(h q d hd).1, (h q d hd).2.mono (fun k hk => Or.inl hk)⟩)
 | clo h => exact .clo (gh := gh.shb o) (h.same (fun k hk => Or.inl hk))
 | agg hl h1 h ih =>
   simp only [Zl]
   refine .agg (by rw [Ye]; exact hl) h1 (fun i v hv => ?_)
   rw [zar] at hv
   obtain ⟨v0, hv0, rfl⟩ := Option.map_eq_some_iff.1 hv
   exact ih i v0 hv0
 | tup hl h ih =>
   simp only [Zl]
   refine .tup (by rw [Ye]; exact hl) (fun i v hv => ?_)
   rw [zar] at hv
   obtain ⟨v0, hv0, rfl⟩ := Option.map_eq_some_iff.1 hv
   exact ih i v0 hv0
 | cond ht hf ih => simp only [Zl]; exact .cond ih hf
theorem Ent.shb (hz : C.full) (o : Nat) : Ent P C st (st.shb o) := fun a w gh h => by
 unfold St.shb
 split
 case h_2 => exact ⟨gh, h⟩
 rename_i cs ho
 have hob := h.obs o _ ho
 have hbF : gh.F o (gh.bb o) := by cases hob with | box xs G hb hl h1 hc hx dis nb hF => exact (hF _).2 (Or.inl rfl)
 have hd : ∀ o' x, look (st.swap o (.box (shL cs))).ob o' = some x -> (o' = o /\ x = .box (shL cs)) \/ (o' ≠ o /\ look st.ob o' = some x) := fun o' x hx => by
   simp only [St.swap, look] at hx
   by_cases e1 : o' = o
   · rw [if_pos e1] at hx; cases hx; exact Or.inl ⟨e1, rfl⟩
   · rw [if_neg e1, yk, if_neg (fun e => e1 e.symm)] at hx; exact Or.inr ⟨e1, hx⟩
 have hF : ∀ o' k, (gh.shb o).F o' k -> gh.F o' k := fun o' k hk => by
   simp only [Gh.shb] at hk
   by_cases e1 : o' = o
   · rw [if_pos e1] at hk; subst e1; rw [hk]; exact hbF
   · rw [if_neg e1] at hk; exact hk
 have hold : ∀ o' x, look (st.swap o (.box (shL cs))).ob o' = some x -> ∃ y, look st.ob o' = some y := fun o' x hx => by
   rcases hd o' x hx with ⟨rfl, _⟩ | ⟨_, hx⟩
   · exact ⟨_, ho⟩
   · exact ⟨_, hx⟩
 refine ⟨gh.shb o, ?_⟩
 exact {
   obs := fun o' b hb => by
     rcases hd o' b hb with ⟨rfl, rfl⟩ | ⟨hne, hb⟩
     · cases hob with
       | box xs G hb hl h1 hc hx dis nb hF =>
         refine ObR.box xs (fun _ _ => False) hb (by rw [XP, List.length_map]; exact hl) h1 hc (fun j d hd => ?_) (fun _ _ _ _ _ _ _ hh => hh.elim) (fun _ _ _ _ hh => hh.elim) (fun k => ?_)
         · rw [XP, List.getElem?_map] at hd
           obtain ⟨d0, hd0, rfl⟩ := Option.map_eq_some_iff.1 hd
           exact Ro.own (Ro.sh ((hx j d0 hd0).ro (fun k hk => Or.inr ⟨(hF k).2 (Or.inr ⟨j, d0, hd0, hk⟩), nb j d0 k hd0 hk⟩) (fun k hk => Or.inl hk)))
         · simp [Gh.shb]
     · have hm := (h.obs o' b hb).mono (F := fun k => gh.F o k /\ k ≠ gh.bb o)
       exact hm.at rfl rfl rfl rfl (by funext k; simp [Gh.shb, Gh.more, hne])
   dis := fun o1 o2 b1 b2 k h1 h2 hk1 hk2 => by
     obtain ⟨y1, h1⟩ := hold _ _ h1
     obtain ⟨y2, h2⟩ := hold _ _ h2
     exact h.dis o1 o2 y1 y2 k h1 h2 (hF _ _ hk1) (hF _ _ hk2)
   sS := fun k hk => hk.elim (h.sS k) (fun hk => hob.lt k hk.1)
   nS := fun o' b k hb hk hS => by
     obtain ⟨y, hy⟩ := hold _ _ hb
     rcases hS with hS | ⟨hS, hne⟩
     · exact h.nS o' y k hy (hF _ _ hk) hS
     · have e1 := h.dis o' o y _ k hy ho (hF _ _ hk) hS
       subst e1
       simp only [Gh.shb, if_true] at hk
       exact hne hk
   wrR := fun o' e' es' k hb hk => by
     rcases hd _ _ hb with ⟨_, hx⟩ | ⟨_, hx⟩
     · cases hx
     · exact h.wrR o' e' es' k hx (hF _ _ hk)
   wrB := fun o' cs' k hb hk hne => by
     rcases hd _ _ hb with ⟨e1, hx⟩ | ⟨_, hx⟩
     · subst e1
       simp only [Gh.shb, if_true] at hk
       exact (hne hk).elim
     · exact h.wrB o' cs' k hx (hF _ _ hk) hne
   wrC := fun o' cs' j hb hj => by
     rcases hd _ _ hb with ⟨e1, hx⟩ | ⟨_, hx⟩
     · subst e1; cases hx
       rw [XP, List.length_map] at hj
       exact h.wrC _ cs j ho hj
     · exact h.wrC o' cs' j hx hj
   kept := h.kept
   pins := fun o' x hp hn => h.pins o' x hp (fun e' => by
     cases hq : look (st.swap o (.box (shL cs))).ob o' with
     | none => exact hn hq
     | some y =>
       obtain ⟨y2, h2⟩ := hold _ _ hq
       rw [e'] at h2; cases h2)
   tms := fun t => by
     rw [St.get_swap]
     exact (h.tms t).shb ho
   nt := h.nt
   dfs := h.dfs
   xl := h.xl
   xS := fun k hk hS => hS.elim (h.xS k hk) (fun hk' => h.xF o _ k ho hk hk'.1)
   xF := fun o' b k hb hk hk2 => by
     obtain ⟨y, hy⟩ := hold _ _ hb
     exact h.xF o' y k hy hk (hF _ _ hk2)
   xW := h.xW
   s0S := fun k hk => Or.inl (h.s0S k hk)
   sZ := fun k hk => hk.elim (h.sZ k) (fun hk' => hz k ((h.wrB o cs k ho hk'.1 hk'.2).imp id (fun hh => ⟨0, hh 0⟩))) }
theorem Tri.last (F : St -> St) (hF : ∀ s, Ent P C s (F s)) {c : Code} {Q : Exit -> St -> Prop} (h : Tri P C st c (fun e s => Q e (F s))) : Tri P C st c Q := fun a w gh hR =>
 Code.wp_mono (fun e a' w' ⟨s, g, hk, hr⟩ => by
   obtain ⟨g', hr'⟩ := hF s a' w' g hr
   exact ⟨F s, g', hk, hr'⟩) (h a w gh hR)
end
attribute [go_sem] zbk zgT St.shb
theorem zqE : fo Tryz.prog 170 0 = some 0 := by kernel_rfl
theorem zqD : fo Tryz.prog 170 1 = some 2 := by kernel_rfl
theorem zqC : fo Tryz.prog 170 2 = some 3 := by kernel_rfl
theorem zqB : fo Tryz.prog 170 3 = some 4 := by kernel_rfl
theorem zrk : isR Tryz.prog 170 = some true := by kernel_rfl
theorem zrd : szT Tryz.prog 170 = 5 := by kernel_rfl
theorem zqW : zeroCells Tryz.prog 170 = some [.slice none 0 0, .slice none 0 0, .int .i64 0, .slice none 0 0, .bool false] := by kernel_rfl
theorem zqr : Zo Tryz.prog 170 = some [(0, 2), (2, 1), (3, 1), (4, 1)] := by kernel_rfl
attribute [go_sem] zqE zqD zqC zqB zrk zrd zqW zqr
def zC (p : ProgramD) (f : Nat) (nm : List ByteArray) (bad : Bool) : List D := [.row true 83 (rows (zg true) p.nodes), .row true 104 (rows (fnC true) p.fns), cI f, .row true 9 (row1 cS nm), cB bad]
theorem zba (S : Int -> List ByteArray -> Bool) (nodes : List NodeD) (nm : List ByteArray) : ∀ l : List Int, Zz S nodes false nm l = l.all (fun kid => S kid nm)
 | [] => rfl
 | k :: r => by
   unfold Zz zep
   rw [Bool.false_and, if_neg (by decide), zba S nodes nm r]; rfl
theorem yP {nodes : List NodeD} {n : Nat} (hd : dAt nodes n ≠ 0) (hn : n < nodes.length) {i : Nat} (hi : i < nodes[n].kids.length) : yD nodes[n].kind i (nAt nodes nodes[n].kids[i]).kind = true := by
 have hb := XD nodes n hd
 simp only [YV, Bool.and_eq_true, zbA] at hb
 obtain ⟨_, _, _, _, _, hr⟩ := hb
 rw [zI hn, yN] at hr
 have := hr i hi
 simp only [kidB, Bool.and_eq_true] at this
 have hg : nodes[n].kids.getD i 0 = nodes[n].kids[i] := by simp [List.getD, hi]
 rw [hg] at this
 exact this.2.2
theorem zhb {k : Int} (h : yV k = true) : (k == 20) = false /\ (k == 16) = false /\ (k == 17) = false /\ (k == 19) = false /\ (k == 14) = false /\ (k == 15) = false /\ (k == 13) = false := by
 have := zu (show inI k 1 12 = true from h)
 refine ⟨?_, ?_, ?_, ?_, ?_, ?_, ?_⟩ <;> (apply Bool.eq_false_iff.2; intro hh; have := eq_of_beq hh; omega)
theorem zbT {f : Int -> Bool} {l : List Int} {i : Nat} (h : i < l.length) : (l.take (i + 1)).all f = ((l.take i).all f && f l[i]) := by
 rw [List.take_succ_eq_append_getElem h, List.all_append]; simp
theorem zdi (p : ProgramD) (hD : Deep p.nodes) (f : Nat) (hfl : f < p.fns.length) (hf : p.fns.length <= 1048576) (hn : p.nodes.length <= 1048576) (hk : ∀ x ∈ p.nodes, x.kids.length <= 300) (nm : List ByteArray) (hnm : nm.length <= 4194304) (n : Nat) : n < p.nodes.length -> yV (nAt p.nodes n).kind = true -> ∀ bad : Bool,
   SoundAt Tryz.prog 167 (fun uf => zq 0 [.ro (.bp 2000 0), .ro (.sc (.int .i64 n))]) [(2000, .box (zC p f nm bad))]
     (fun rs st => rs = [] /\ yh st.ob [(2000, .box (zC p f nm (bad || !zU p f n nm)))]) := by
 induction n using Nat.strongRecOn with
 | ind n ih =>
 intro hnl hval bad
 rw [zI hnl] at hval
 have hkid := hD.kid hnl
 have hkx := hk p.nodes[n] (List.getElem_mem hnl)
 have heq := zcX hD f hnl nm
 have hx : (rows (zg true) p.nodes).getD n [] = zg true p.nodes[n] := zi _ _ hnl
 obtain ⟨v20, v16, v17, v19, v14, v15, v13⟩ := zhb hval
 have hrec : ∀ i (hi : i < p.nodes[n].kids.length), ∀ b : Bool, SoundAt Tryz.prog 167 (fun uf => zq 0 [.ro (.bp 2000 0), .ro (.sc (.int .i64 p.nodes[n].kids[i]))]) [(2000, .box (zC p f nm b))]
     (fun rs st => rs = [] /\ yh st.ob [(2000, .box (zC p f nm (b || !zU p f p.nodes[n].kids[i] nm)))]) := fun i hi b => by
   have hft := yP (hD.deep n hnl) hnl hi
   unfold yD at hft
   rw [v20, v16, v17, v19] at hft
   have hv2 : yV (nAt p.nodes p.nodes[n].kids[i]).kind = true := hft
   obtain ⟨q0, q1, q2⟩ := hkid p.nodes[n].kids[i] (List.getElem_mem hi)
   have e : p.nodes[n].kids[i] = (p.nodes[n].kids[i].toNat : Int) := by omega
   have := ih p.nodes[n].kids[i].toNat q2 (by omega) (by rw [<- e]; exact hv2) b
   rw [<- e] at this
   exact this
 rw [v20, zba] at heq
 generalize zU p f n nm = R at heq |-
 have hc1 : ((n : Int) < (p.nodes.length : Int)) = True := eq_true (by omega)
 generalize p.nodes[n] = x at hkid hkx heq hx hval v20 v16 v17 v19 v14 v15 v13 hrec
 have hhas := zcF nm x.name hnm
 have hfa := zbe p x.name hf
 simp only [zb] at hfa
 refine zt (fn := Tryz.f167) (c := Tryz.f167.body.getD .skip) (res := []) (n := 98) ze (by kernel_rfl) (by rfl) (by kernel_rfl) (by rfl) (by rfl) (by simp [zq]) (fun uf ub C hpin hpin2 hfull => ?_)
 simp only [Tryz.f167, Option.getD_some]
 refine Tri.step ze ?_
 simp +decide only [hc1, hx, zg, Int.natCast_nonneg, zb, za, zC, hpin, hpin2, go_sem, reduceAdd, reduceMul]
 refine Tri.ent ?_ (Ent.frb hfull 4)
 refine Tri.step ze ?_
 simp +decide only [zb, za, zC, hpin, hpin2, go_sem, reduceAdd, reduceMul]
 refine Tri.loop (ι := Nat) (fun i => i <= x.kids.length) (fun i => ⟨98, [(0, .bp 2000 0), (1, vI n), (4, .ip (zg true x) 0), (5, vI i)], [(2000, .box (zC p f nm (bad || !(x.kids.take i).all (fun kid => zU p f kid nm))))]⟩) (fun i => x.kids.length - i) 0 (by simp) ?_ ?_
 · refine Ent.weak ?_ ?_ ?_ ?_ <;> simp +decide [subT, subB, zl, zk, zo, St.get, look, vI, vB, vS, cI, cS, cB, zg, za, zC, roI]
 · rintro i hi
   refine zf ze _ ?_
   by_cases h' : i < x.kids.length
   · have e : ((i : Int) < (x.kids.length : Int)) = True := by simp [h']
     have hs := hrec i h' (bad || !(x.kids.take i).all (fun kid => zU p f kid nm))
     have hnx : ((bad || !(x.kids.take i).all (fun kid => zU p f kid nm)) || !zU p f x.kids[i] nm) = (bad || !(x.kids.take (i + 1)).all (fun kid => zU p f kid nm)) := by
       rw [zbT h']
       generalize (x.kids.take i).all (fun kid => zU p f kid nm) = A
       cases bad <;> cases A <;> rfl
     rw [hnx] at hs
     simp only [zC, cI, cB] at hs
     simp +decide only [e, h', zr _ _ h', zg, Int.natCast_nonneg, vB, vI, zb, za, zC, hpin, hpin2, go_sem, reduceAdd, reduceMul]
     refine zw hs hpin hfull [(2000, 2000)] [] [(2000, 2000)] ⟨rfl, rfl, rfl, rfl⟩ (fun uf => ?_) ?_
     · simp +decide only [zb, za, zC, hpin, hpin2, go_sem, reduceAdd, reduceMul]
     simp +decide only [zb, za, zC, hpin, hpin2, go_sem, reduceAdd, reduceMul]
     refine ⟨i + 1, h', by omega, Ent.weak ?_ ?_ ?_ ?_⟩
     all_goals simp +decide [subT, subB, zl, zk, zo, St.get, look, vI, vB, vS, cI, cS, cB, zg, za, zC, roI, w64s (n := x.kids.length) h' (by omega)]
   have hil : i = x.kids.length := by omega
   subst hil
   have e : ((x.kids.length : Int) < (x.kids.length : Int)) = False := by simp
   simp +decide only [e, zg, vB, vI, zb, za, zC, hpin, hpin2, go_sem, reduceAdd, reduceMul]
   refine Tri.step ze ?_
   simp +decide only [zg, zb, za, zC, hpin, hpin2, go_sem, reduceAdd, reduceMul]
   refine zf ze _ ?_
   cases h2 : x.kind == 2 with
   | true =>
     have heq2 : R = (ownB p f nm x && x.kids.all (fun kid => zU p f kid nm)) := heq
     have hown : ownB p f nm x = xn nm x.name := by
       have hk := eq_of_beq h2
       unfold ownB YX; rw [hk]; simp [inI]
     simp +decide only [h2, zb, za, zC, hpin, hpin2, go_sem, reduceAdd, reduceMul]
     cases hb : bad || !x.kids.all (fun kid => zU p f kid nm) with
     | true =>
       refine Tri.sched ze [(0, true), (1, false), (2, false), (3, false), (4, false), (5, false), (6, true), (7, true), (8, true), (10, true), (11, true), (9, false), (12, false), (13, false), (14, false), (15, false), (16, false), (17, false)] zL (by kernel_rfl) (fun C2 hC2 => ?_)
       have hp2 := zN hC2 hpin
       have hfin : (bad || !R) = true := by rw [heq2]; rw [Bool.or_eq_true] at hb |-; rcases hb with hb | hb; exact Or.inl hb; right; simp only [Bool.not_eq_true'] at hb |-; rw [hb, Bool.and_false]
       simp +decide only [hb, hfin, zb, za, zC, hp2, hpin, hpin2, go_sem, reduceAdd, reduceMul]
     | false =>
       refine Tri.sched ze [(0, true), (1, false), (2, false), (3, false), (4, false), (5, false), (6, true), (7, true), (8, true), (10, true), (11, true), (9, false), (12, false), (13, false), (14, false), (15, false), (16, false), (17, false)] zL (by kernel_rfl) (fun C2 hC2 => ?_)
       have hp2 := zN hC2 hpin
       obtain ⟨hb1, hb2⟩ := Bool.or_eq_false_iff.1 hb
       have hfin : (bad || !R) = !xn nm x.name := by
         rw [heq2, hb1, Bool.false_or]
         simp only [Bool.not_eq_false'] at hb2
         rw [hb2, Bool.and_true, hown]
       simp +decide only [hb, zb, za, zC, hp2, hpin, hpin2, go_sem, reduceAdd, reduceMul]
       refine zd hhas hp2 ?_
       simp +decide only [hfin, zb, za, zC, hp2, hpin, hpin2, go_sem, reduceAdd, reduceMul]
   | false =>
   cases h3 : x.kind == 3 with
   | true =>
     have heq2 : R = (ownB p f nm x && x.kids.all (fun kid => zU p f kid nm)) := heq
     have hown : ownB p f nm x = xn nm x.name := by
       have hk := eq_of_beq h3
       unfold ownB YX; rw [hk]; simp [inI]
     simp +decide only [h2, h3, zb, za, zC, hpin, hpin2, go_sem, reduceAdd, reduceMul]
     cases hb : bad || !x.kids.all (fun kid => zU p f kid nm) with
     | true =>
       refine Tri.sched ze [(0, true), (1, false), (2, false), (3, false), (4, false), (5, false), (6, true), (7, true), (8, true), (10, true), (11, true), (9, false), (12, false), (13, false), (14, false), (15, false), (16, false), (17, false)] zL (by kernel_rfl) (fun C2 hC2 => ?_)
       have hp2 := zN hC2 hpin
       have hfin : (bad || !R) = true := by rw [heq2]; rw [Bool.or_eq_true] at hb |-; rcases hb with hb | hb; exact Or.inl hb; right; simp only [Bool.not_eq_true'] at hb |-; rw [hb, Bool.and_false]
       simp +decide only [hb, hfin, zb, za, zC, hp2, hpin, hpin2, go_sem, reduceAdd, reduceMul]
     | false =>
       refine Tri.sched ze [(0, true), (1, false), (2, false), (3, false), (4, false), (5, false), (6, true), (7, true), (8, true), (10, true), (11, true), (9, false), (12, false), (13, false), (14, false), (15, false), (16, false), (17, false)] zL (by kernel_rfl) (fun C2 hC2 => ?_)
       have hp2 := zN hC2 hpin
       obtain ⟨hb1, hb2⟩ := Bool.or_eq_false_iff.1 hb
       have hfin : (bad || !R) = !xn nm x.name := by
         rw [heq2, hb1, Bool.false_or]
         simp only [Bool.not_eq_false'] at hb2
         rw [hb2, Bool.and_true, hown]
       simp +decide only [hb, zb, za, zC, hp2, hpin, hpin2, go_sem, reduceAdd, reduceMul]
       refine zd hhas hp2 ?_
       simp +decide only [hfin, zb, za, zC, hp2, hpin, hpin2, go_sem, reduceAdd, reduceMul]
   | false =>
   cases h4 : x.kind == 4 with
   | true =>
     have heq2 : R = (ownB p f nm x && x.kids.all (fun kid => zU p f kid nm)) := heq
     have hown : ownB p f nm x = xn nm x.name := by
       have hk := eq_of_beq h4
       unfold ownB YX; rw [hk]; simp [inI]
     simp +decide only [h2, h3, h4, zb, za, zC, hpin, hpin2, go_sem, reduceAdd, reduceMul]
     cases hb : bad || !x.kids.all (fun kid => zU p f kid nm) with
     | true =>
       refine Tri.sched ze [(0, true), (1, false), (2, false), (3, false), (4, false), (5, false), (6, true), (7, true), (8, true), (10, true), (11, true), (9, false), (12, false), (13, false), (14, false), (15, false), (16, false), (17, false)] zL (by kernel_rfl) (fun C2 hC2 => ?_)
       have hp2 := zN hC2 hpin
       have hfin : (bad || !R) = true := by rw [heq2]; rw [Bool.or_eq_true] at hb |-; rcases hb with hb | hb; exact Or.inl hb; right; simp only [Bool.not_eq_true'] at hb |-; rw [hb, Bool.and_false]
       simp +decide only [hb, hfin, zb, za, zC, hp2, hpin, hpin2, go_sem, reduceAdd, reduceMul]
     | false =>
       refine Tri.sched ze [(0, true), (1, false), (2, false), (3, false), (4, false), (5, false), (6, true), (7, true), (8, true), (10, true), (11, true), (9, false), (12, false), (13, false), (14, false), (15, false), (16, false), (17, false)] zL (by kernel_rfl) (fun C2 hC2 => ?_)
       have hp2 := zN hC2 hpin
       obtain ⟨hb1, hb2⟩ := Bool.or_eq_false_iff.1 hb
       have hfin : (bad || !R) = !xn nm x.name := by
         rw [heq2, hb1, Bool.false_or]
         simp only [Bool.not_eq_false'] at hb2
         rw [hb2, Bool.and_true, hown]
       simp +decide only [hb, zb, za, zC, hp2, hpin, hpin2, go_sem, reduceAdd, reduceMul]
       refine zd hhas hp2 ?_
       simp +decide only [hfin, zb, za, zC, hp2, hpin, hpin2, go_sem, reduceAdd, reduceMul]
   | false =>
   cases h5 : x.kind == 5 with
   | true =>
     have heq2 : R = (ownB p f nm x && x.kids.all (fun kid => zU p f kid nm)) := heq
     have hown : ownB p f nm x = xn nm x.name := by
       have hk := eq_of_beq h5
       unfold ownB YX; rw [hk]; simp [inI]
     simp +decide only [h2, h3, h4, h5, zb, za, zC, hpin, hpin2, go_sem, reduceAdd, reduceMul]
     cases hb : bad || !x.kids.all (fun kid => zU p f kid nm) with
     | true =>
       refine Tri.sched ze [(0, true), (1, false), (2, false), (3, false), (4, false), (5, false), (6, true), (7, true), (8, true), (10, true), (11, true), (9, false), (12, false), (13, false), (14, false), (15, false), (16, false), (17, false)] zL (by kernel_rfl) (fun C2 hC2 => ?_)
       have hp2 := zN hC2 hpin
       have hfin : (bad || !R) = true := by rw [heq2]; rw [Bool.or_eq_true] at hb |-; rcases hb with hb | hb; exact Or.inl hb; right; simp only [Bool.not_eq_true'] at hb |-; rw [hb, Bool.and_false]
       simp +decide only [hb, hfin, zb, za, zC, hp2, hpin, hpin2, go_sem, reduceAdd, reduceMul]
     | false =>
       refine Tri.sched ze [(0, true), (1, false), (2, false), (3, false), (4, false), (5, false), (6, true), (7, true), (8, true), (10, true), (11, true), (9, false), (12, false), (13, false), (14, false), (15, false), (16, false), (17, false)] zL (by kernel_rfl) (fun C2 hC2 => ?_)
       have hp2 := zN hC2 hpin
       obtain ⟨hb1, hb2⟩ := Bool.or_eq_false_iff.1 hb
       have hfin : (bad || !R) = !xn nm x.name := by
         rw [heq2, hb1, Bool.false_or]
         simp only [Bool.not_eq_false'] at hb2
         rw [hb2, Bool.and_true, hown]
       simp +decide only [hb, zb, za, zC, hp2, hpin, hpin2, go_sem, reduceAdd, reduceMul]
       refine zd hhas hp2 ?_
       simp +decide only [hfin, zb, za, zC, hp2, hpin, hpin2, go_sem, reduceAdd, reduceMul]
   | false =>
   cases h6 : x.kind == 6 with
   | true =>
     have heq2 : R = (ownB p f nm x && x.kids.all (fun kid => zU p f kid nm)) := heq
     have hown : ownB p f nm x = xn nm x.name := by
       have hk := eq_of_beq h6
       unfold ownB YX; rw [hk]; simp [inI]
     simp +decide only [h2, h3, h4, h5, h6, zb, za, zC, hpin, hpin2, go_sem, reduceAdd, reduceMul]
     cases hb : bad || !x.kids.all (fun kid => zU p f kid nm) with
     | true =>
       refine Tri.sched ze [(0, true), (1, false), (2, false), (3, false), (4, false), (5, false), (6, true), (7, true), (8, true), (10, true), (11, true), (9, false), (12, false), (13, false), (14, false), (15, false), (16, false), (17, false)] zL (by kernel_rfl) (fun C2 hC2 => ?_)
       have hp2 := zN hC2 hpin
       have hfin : (bad || !R) = true := by rw [heq2]; rw [Bool.or_eq_true] at hb |-; rcases hb with hb | hb; exact Or.inl hb; right; simp only [Bool.not_eq_true'] at hb |-; rw [hb, Bool.and_false]
       simp +decide only [hb, hfin, zb, za, zC, hp2, hpin, hpin2, go_sem, reduceAdd, reduceMul]
     | false =>
       refine Tri.sched ze [(0, true), (1, false), (2, false), (3, false), (4, false), (5, false), (6, true), (7, true), (8, true), (10, true), (11, true), (9, false), (12, false), (13, false), (14, false), (15, false), (16, false), (17, false)] zL (by kernel_rfl) (fun C2 hC2 => ?_)
       have hp2 := zN hC2 hpin
       obtain ⟨hb1, hb2⟩ := Bool.or_eq_false_iff.1 hb
       have hfin : (bad || !R) = !xn nm x.name := by
         rw [heq2, hb1, Bool.false_or]
         simp only [Bool.not_eq_false'] at hb2
         rw [hb2, Bool.and_true, hown]
       simp +decide only [hb, zb, za, zC, hp2, hpin, hpin2, go_sem, reduceAdd, reduceMul]
       refine zd hhas hp2 ?_
       simp +decide only [hfin, zb, za, zC, hp2, hpin, hpin2, go_sem, reduceAdd, reduceMul]
   | false =>
   have hu : YX x.kind = false := by
     unfold YX
     rw [v14, v15]
     have i2 : inI x.kind 2 6 = false := by
       apply Bool.eq_false_iff.2; intro hh
       have := zu hh
       have g2 : x.kind ≠ 2 := by simpa using h2
       have g3 : x.kind ≠ 3 := by simpa using h3
       have g4 : x.kind ≠ 4 := by simpa using h4
       have g5 : x.kind ≠ 5 := by simpa using h5
       have g6 : x.kind ≠ 6 := by simpa using h6
       omega
     rw [i2]; rfl
   unfold ownB at heq
   rw [hu, Bool.not_false, Bool.true_or, Bool.true_and] at heq
   cases h12 : x.kind == 12 with
   | false =>
     rw [h12, Bool.not_false, Bool.true_or, Bool.true_and] at heq
     simp +decide only [h2, h3, h4, h5, h6, h12, heq, zb, za, zC, hpin, hpin2, go_sem, reduceAdd, reduceMul]
   | true =>
   rw [h12, Bool.not_true, Bool.false_or] at heq
   simp +decide only [h2, h3, h4, h5, h6, h12, zb, za, zC, hpin, hpin2, go_sem, reduceAdd, reduceMul]
   refine Tri.sched ze [(0, true), (1, true), (2, true), (4, true), (5, true), (3, false), (6, false), (7, false)] zL (by kernel_rfl) (fun C2 hC2 => ?_)
   have hp2 := zN hC2 hpin
   simp +decide only [zb, za, zC, hp2, hpin, hpin2, go_sem, reduceAdd, reduceMul]
   refine zd hfa hp2 ?_
   unfold zjN at heq
   have hrg := ZA x.name p.fns 0
   have hfe : xJ p.fns x.name = zbf x.name p.fns 0 := rfl
   rw [<- hfe] at hrg
   generalize xJ p.fns x.name = at_ at heq hrg |-
   simp +decide only [zb, za, zC, hp2, hpin, hpin2, go_sem, reduceAdd, reduceMul]
   refine Tri.sched ze [(0, true), (1, false), (2, false), (3, false), (4, false), (5, false), (6, false), (7, false), (8, false), (9, false), (10, true), (11, false), (12, false), (13, false), (14, false), (15, false), (16, false), (17, false), (18, true), (19, true), (20, true), (21, true), (23, true), (28, true), (29, true), (30, true), (22, false), (24, false), (25, false), (26, false), (27, false), (31, false), (32, false), (33, false), (34, false), (35, false)] zL (by kernel_rfl) (fun C3 hC3 => ?_)
   have hp3 := zN hC3 hpin
   cases hb : bad || !x.kids.all (fun kid => zU p f kid nm) with
   | true =>
     have hfin : (bad || !R) = true := by rw [heq]; rw [Bool.or_eq_true] at hb |-; rcases hb with hb | hb; exact Or.inl hb; right; simp only [Bool.not_eq_true'] at hb |-; rw [hb, Bool.and_false]
     rcases zet p.fns at_.toNat with ⟨y, hy⟩ | hy
     · simp +decide only [hb, hfin, hy, fnC, zb, za, zC, hp3, hpin, hpin2, go_sem, reduceAdd, reduceMul]
     · simp +decide only [hb, hfin, hy, zb, za, zC, hp3, hpin, hpin2, go_sem, reduceAdd, reduceMul]
   | false =>
     obtain ⟨hb1, hb2⟩ := Bool.or_eq_false_iff.1 hb
     simp only [Bool.not_eq_false'] at hb2
     rw [hb2, Bool.and_true] at heq
     rw [hb1, Bool.false_or]
     by_cases ha : at_ < 0
     · have c1 : (at_ < 0) = True := eq_true ha
       have g0 : inI at_ 0 ((f : Int) - 1) = false := by apply Bool.eq_false_iff.2; intro hh; have := zu hh; omega
       rw [g0, Bool.false_and] at heq
       rcases zet p.fns at_.toNat with ⟨y, hy⟩ | hy
       · simp +decide only [hb, c1, heq, hy, fnC, zb, za, zC, hp3, hpin, hpin2, go_sem, reduceAdd, reduceMul]
       · simp +decide only [hb, c1, heq, hy, zb, za, zC, hp3, hpin, hpin2, go_sem, reduceAdd, reduceMul]
     · have c1 : (at_ < 0) = False := eq_false ha
       obtain ⟨m, rfl⟩ : ∃ m : Nat, at_ = m := ⟨at_.toNat, by omega⟩
       have hml : m < p.fns.length := by rcases hrg with h | h <;> omega
       have hy : (rows (fnC true) p.fns).getD m [] = fnC true p.fns[m] := zi _ _ hml
       have hc2 : ((m : Int) < (p.fns.length : Int)) = True := eq_true (by omega)
       rw [yE hml] at heq
       generalize p.fns[m] = y at hy heq
       by_cases hge : (f : Int) <= (m : Int)
       · have c2 : ((f : Int) <= (m : Int)) = True := eq_true hge
         have g0 : inI (m : Int) 0 ((f : Int) - 1) = false := by apply Bool.eq_false_iff.2; intro hh; have := zu hh; omega
         rw [g0, Bool.false_and] at heq
         simp +decide only [hb, c1, c2, heq, hy, hc2, fnC, Int.natCast_nonneg, ge_iff_le, zb, za, zC, hp3, hpin, hpin2, go_sem, reduceAdd, reduceMul]
       · have c2 : ((f : Int) <= (m : Int)) = False := eq_false hge
         have g0 : inI (m : Int) 0 ((f : Int) - 1) = true := by simp only [inI, Bool.and_eq_true, decide_eq_true_eq]; omega
         rw [g0, Bool.true_and] at heq
         simp +decide only [hb, c1, c2, heq, hy, hc2, fnC, bne, Int.natCast_nonneg, ge_iff_le, zb, za, zC, hp3, hpin, hpin2, go_sem, reduceAdd, reduceMul]
end Go.Proofs.YtjjigphfjclofaaGreatDoor.AW
