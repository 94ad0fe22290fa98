/- What the statements of this set lean on, part 6. No condition beyond those named. -/
import Derived.Test.YtjjigphfjclofaaGreatDoorLx5
import Derived.Shelf.Lay
import Derived.Shelf.Sort.Plain
import Derived.Shelf.Slices.In.SortNone2
import Derived.Sort.OwnSortedInts
namespace Go.Proofs
open Go.Shelf
shelf_lay Lays.n191 Nm 191 at Tryz as YtjjigphfjclofaaGreatDoorlays
end Go.Proofs
namespace Go.Proofs.YtjjigphfjclofaaGreatDoor.AW
open Go.RowKit Go.Sort
set_option maxHeartbeats 8000000
set_option maxRecDepth 100000
set_option linter.unusedSimpArgs false
set_option linter.unusedVariables false
def xO (l : List Int) : List Int := l.mergeSort fun x y => decide (x <= y)
theorem yC (l : List Int) : (xO l).length = l.length := (List.mergeSort_perm l _).length_eq
theorem zlq (l : List Int) (x : Int) : x ∈ xO l ↔ x ∈ l := (List.mergeSort_perm l _).mem_iff
theorem zmA (l : List Int) : (xO l).Pairwise (· <= ·) := by
 have := List.pairwise_mergeSort (le := fun x y : Int => decide (x <= y)) (fun a b c h1 h2 => by simp at *; omega) (fun a b => by simp; omega) l
 exact this.imp (fun h => by simpa using h)
theorem zbs : ∀ {l m : List Int}, l.Pairwise (· < ·) -> m.Pairwise (· < ·) -> (∀ x, x ∈ l ↔ x ∈ m) -> l = m
 | [], [], _, _, _ => rfl
 | [], y :: m, _, _, h => by have := (h y).2 List.mem_cons_self; simp at this
 | x :: l, [], _, _, h => by have := (h x).1 List.mem_cons_self; simp at this
 | x :: l, y :: m, hl, hm, h => by
  have hl' := List.pairwise_cons.1 hl
  have hm' := List.pairwise_cons.1 hm
  have hxy : x = y := by
   have h1 := (h x).1 List.mem_cons_self
   have h2 := (h y).2 List.mem_cons_self
   rcases List.mem_cons.1 h1 with e | e
   · exact e
   · rcases List.mem_cons.1 h2 with e' | e'
     · exact e'.symm
     · have a := hl'.1 y e'; have b := hm'.1 x e; omega
  subst hxy
  congr 1
  refine zbs hl'.2 hm'.2 (fun z => ⟨fun hz => ?_, fun hz => ?_⟩)
  · rcases List.mem_cons.1 ((h z).1 (List.mem_cons_of_mem _ hz)) with e | e
    · subst e; have := hl'.1 z hz; omega
    · exact e
  · rcases List.mem_cons.1 ((h z).2 (List.mem_cons_of_mem _ hz)) with e | e
    · subst e; have := hm'.1 z hz; omega
    · exact e
theorem zdC {l m : List Int} (hn : l.Nodup) (hm : m.Pairwise (· < ·)) (h : ∀ x, x ∈ l ↔ x ∈ m) : xO l = m := by
 refine zbs ?_ hm (fun x => (zlq l x).trans (h x))
 have h1 := zmA l
 have h2 : (xO l).Nodup := (List.mergeSort_perm l _).nodup_iff.2 hn
 exact List.Pairwise.imp₂ (fun a b hab hne => by omega) h1 h2
theorem YG (l : List Int) (hlen : l.length < 4611686018427387904) : SoundAt Tryz.prog 154 (fun uf => zu 0 [.ro (.ref 2000 [] l.length)]) [(2000, .row 3 (row1 cI l))] (fun rs st => rs = [] /\ xr st.ob [(2000, .row 3 (row1 cI (xO l)))]) := by
 refine ⟨by kernel_rfl, fun uf ub C w gh us hw hpin hpin2 hfull hus hR => ?_⟩
 have h0 := hR.tms 0
 have e0 : St.get ⟨us.size, zipT 0 (zu 0 [Arg.ro (.ref 2000 [] l.length)]), [(2000, Ob.row 3 (row1 cI l))]⟩ 0 = .ref 2000 [] l.length := rfl
 rw [e0] at h0
 have hus1 : us.size = 1 := hus
 obtain ⟨u, rfl⟩ : ∃ u, us = #[u] := ⟨us[0], by apply Array.ext (by simp [hus1]); intro i h1 h2; simp at h2; subst h2; rfl⟩
 have eu : (#[u] : Array Value).getD 0 undef = u := rfl
 simp only [eu] at h0
 have hob := hR.obs 2000 (.row 3 (row1 cI l)) rfl
 cases h0 with
 | @ref o n p x e es A c hx hn hle =>
 have hx' : Ob.row 3 (row1 cI l) = x := by simpa [look] using hx
 subst hx'
 obtain ⟨rfl, rfl, hv⟩ := xY hn
 rw [zU] at hv
 cases hob with
 | row how =>
 have hwr := hR.wrR 2000 3 (row1 cI l)
 have hns := hR.nS 2000 (.row 3 (row1 cI l))
 generalize hF : gh.F 2000 = F0 at how hwr hns
 generalize hvv : gh.hv 2000 = v0 at how hv
 subst hv
 generalize hq : Value.slice A l.length c = v at how
 generalize hes : row1 cI l = es at how
 generalize hD : D.row false 3 es = dd at how
 cases how with
 | dead | sc | shared => cases hD
 | @row e' es' v' xs F own hsz h1 hxx dis nb =>
 injection hD with _ he hes2
 subst he
 subst hes2
 subst hes
 subst hq
 have hxs : xs = l.map (Value.int .i64) := by
  have hl0 := own.1
  rw [zhF, Nat.mul_one, zU] at hl0
  refine List.ext_getElem (by simp [hl0]) (fun i g1 g2 => ?_)
  have hil : i < l.length := by omega
  have := hxx i 0 (cI l[i]) (by unfold cellAt; rw [zbq cI l hil]; rfl)
  rw [zhF, Nat.mul_one, Nat.add_zero] at this
  have e1 : xs.getD i undef = xs[i] := by simp [List.getD, g1]
  rw [e1] at this
  have h2 := Ow.ro (S' := fun _ => True) this (fun _ _ => trivial) (fun _ _ => trivial)
  generalize xs[i] = y at h2
  cases h2
  simp
 have hres : ∀ (w' : World) (S : Nat -> Prop), Res Tryz.prog w' S [] [] (fun _ _ _ => False) := fun w' S =>
  ⟨rfl, fun i r v h => by simp at h, fun i r v h => by simp at h, fun i r v h => by simp at h, fun i v h => by simp at h, fun i r v j d h => by simp at h, fun i j i' j' r r' d d' k h => by simp at h⟩
 have hnone : ∀ k, YA [] (fun _ _ _ => False) k -> False := fun k ⟨i, j, r, d, h, _⟩ => by simp at h
 rcases own.2 with ⟨hnil, hn0⟩ | ⟨g, cap, cur, hval, _, hblk, hnc, hcm, hcs, htk⟩
 · rw [zU] at hn0
   have hl0 : l = [] := List.eq_nil_of_length_eq_zero hn0
   subst hl0
   injection hnil with g1 g2 g3
   subst g1
   subst g3
   refine (Any.sort_Ints_none YtjjigphfjclofaaGreatDoorlays none 0 w).mono (fun e w' he => ?_)
   obtain ⟨rfl, rfl⟩ := he
   exact ⟨[], [], _, _, gh, fun _ _ _ => False, rfl, ⟨rfl, by simp [xr, look, xO]⟩, hres _ _, hR.less (fun k hk => (hnone k hk).elim)⟩
 · rw [zU] at hval hnc htk
   injection hval with g1 g2 g3
   subst g1
   subst g3
   rw [zhF, Nat.mul_one] at htk
   rw [zhF, Nat.mul_one] at hcs
   have hgl : g < w.heap.size := (Array.getElem?_eq_some_iff.1 hblk).1
   refine (Any.sort_Ints YtjjigphfjclofaaGreatDoorlays g 0 c l w (holds_of_blockI hblk (by rw [htk, hxs])) hgl hlen).mono (fun e w' he => ?_)
   obtain ⟨rfl, n, os, rfl⟩ := he
   have hgb := grownBy_sortedI (w := w) (g := g) (n := n) (os := os) (xO l).toArray
   have hgr := ownsRow_sortedI (n := n) (os := os) (base := 0) (yC l) (Nat.zero_le g) hblk hnc hcm (by simpa using hcs)
   have hheap := heap_sortedI (n := n) (os := os) (xO l).toArray hblk
   generalize hw' : grow (putRow (Value.int .i64) (Sort.ahead w n) g 0 (xO l).toArray) os = w' at hgb hgr hheap
   have hgF : gh.F 2000 g := by rw [hF]; exact Or.inl rfl
   have hwg := hR.wrR 2000 3 (row1 cI l) g rfl hgF
   have hnsg := hR.nS 2000 (.row 3 (row1 cI l)) g rfl hgF
   have hone : ∀ o, o ∉ [2000] -> ∀ (q : Ob), look [(2000, q)] o = none := fun o ho q => by
    have : o ≠ 2000 := by simpa using ho
    simp [look, this]
   let st0 : St := ⟨(#[Value.slice (some ⟨g, 0, none⟩) l.length c]).size, zipT 0 (zu 0 [Arg.ro (.ref 2000 [] l.length)]), [(2000, Ob.row 3 (row1 cI l))]⟩
   let st' : St := ⟨st0.nt, mapT (xf [2000]) st0.tm, [(2000, .row 3 (row1 cI (xO l)))]⟩
   have hR0 : Rep Tryz.prog C No st0 ⟨#[Value.slice (some ⟨g, 0, none⟩) l.length c], []⟩ w gh := hR
   have hlo : ∀ o, o ∈ [2000] -> o = 2000 := fun o ho => by simpa using ho
   obtain ⟨gh', hr', _, _⟩ := hR0.multi (st' := st') (w1 := w') [2000] (fun o => look st'.ob o) (fun o k => k = g) (fun _ => False) (fun o ho => rfl) (fun o ho => (hone o ho _).trans (hone o ho _).symm)
    (fun t => by unfold St.get; simp only [st', Zo]; cases look st0.tm t <;> simp [xf]) rfl
    (fun o ho => by
     rw [hlo o ho]
     exact ⟨3, row1 cI l, row1 cI (xO l), rfl, rfl, by rw [zU, zU, yC]⟩)
    hgb.size (fun o x k ho hx => by rw [hone o ho] at hx; cases hx)
    (fun k hk => hgb.block k (hR.sS k hk) (fun e => by cases e; exact hnsg hk))
    ⟨hgb.os, hgb.output, fun i hi => by
     by_cases hig : i = g
     · subst hig
       rw [hblk, hheap]
       refine ⟨rfl, rfl, by simp [putCells], fun j hj => (hj ⟨i, j, rfl, hwg.imp id (fun hh => hh j)⟩).elim⟩
     · have h1 := hgb.block i hi (fun e => hig (by cases e; rfl))
       have h2 := (World.keptBut_refl w (fun p => ∃ b f, p = MemPlace.cell b f /\ (C.w0.heap.size <= b \/ C.may b f))).2.2 i hi
       rw [h1]; exact h2⟩
    (fun o ho e es' hno => by
     rw [hlo o ho] at hno |-
     have hno : some (Ob.row 3 (row1 cI (xO l))) = some (Ob.row e es') := hno
     injection hno with hno
     injection hno with h1 h2
     subst h1
     subst h2
     rw [hvv]
     have how2 : Ow Tryz.prog w' gh.S (.row false 3 (row1 cI (xO l))) (.slice (some ⟨g, 0, none⟩) l.length c) (fun k => (Value.slice (some ⟨g, 0, none⟩) l.length c).ownBlock = some k \/ ∃ i j d, cellAt (row1 cI (xO l)) i j = some d /\ (fun _ => False) k) := by
      refine Ow.row ((xO l).map (Value.int .i64)) (fun _ _ _ => False) ?_ ?_ ?_ ?_ (fun i j i' j' d d' k _ _ h => h.elim) (fun i j d k _ h => h.elim)
      · rw [zhF, zU, yC]; exact hgr
      · intro q hq; simp [row1] at hq; obtain ⟨z, _, rfl⟩ := hq; simp [zhF]
      · intro q hq; simp at hq; obtain ⟨z, _, rfl⟩ := hq; rfl
      · intro i j d hd
        have hil : i < (xO l).length := by have := yq hd; rwa [zU] at this
        have hj := xj (n := 1) hd (fun q hq => by simp [row1] at hq; obtain ⟨z, _, rfl⟩ := hq; rfl)
        obtain rfl : j = 0 := by omega
        unfold cellAt at hd
        rw [zbq cI _ hil] at hd
        simp at hd
        subst hd
        have e1 : ((xO l).map (Value.int .i64)).getD (i * szT Tryz.prog 3 + 0) undef = .int .i64 (xO l)[i] := by
         rw [zhF, Nat.mul_one, Nat.add_zero]; simp [List.getD, hil]
        rw [e1]
        exact Ow.sc rfl
     exact how2.congr (fun k => ⟨fun h => h.elim (fun h => by injection h with h; exact h.symm) (fun ⟨_, _, _, _, h⟩ => h.elim), fun h => Or.inl (by rw [h]; rfl)⟩))
    (fun o ho k hk => Or.inl ⟨2000, by simp, by rw [hk]; exact hgF⟩)
    (fun o o' k ho ho' _ _ => (hlo o ho).trans (hlo o' ho').symm)
    (fun k hk => hk.elim) (fun o k ho hk hk' => hk')
   subst hw'
   exact ⟨[], [], st', _, gh', fun _ _ _ => False, rfl, ⟨rfl, rfl, trivial⟩, hres _ _, hr'.less (fun k hk => (hnone k hk).elim)⟩
open Go.RowKit
open Nat renaming reduceAdd → aD, reduceMul → mU
open Int renaming natCast_nonneg → iN
open Bool renaming false_eq_true → bF, false_or → bO, true_or → bT, or_false → bP
open List renaming getElem_mem → lM, getElem?_eq_getElem → lE
open Option renaming getD_some → oD, map_eq_some_iff → oM
theorem ziO (nodes : List NodeD) (k : Int) (hn : nodes.length <= 1048576) (hk : ∀ x ∈ nodes, x.kids.length <= 1048576) : zx Tryz.prog 133 [.ro (.imm 83 (rows (zg true) nodes)), .ro (.sc (.int .i64 k))] (fun rs st => rs = [(false, [cI (ye nodes k)])]) := by
 refine zq (fn := Tryz.f133) (c := Tryz.f133.body.getD .skip) (res := [.tm 4]) (n := 17) ze (by kernel_rfl) (by rfl) (by kernel_rfl) (by rfl) (by rfl) (by simp [zu]) (fun C hpin hfull => ?_)
 have w1 : IntKind.i64.wrap ((nodes.length : Int) - 1) = (nodes.length : Int) - 1 := w64 (by omega) (by omega)
 simp +decide only [Tryz.f133, w1, hpin, go_sem, aD, mU]
 refine zd (xp k 0 (nodes.length - 1)) hpin ?_
 simp +decide only [hpin, go_sem, aD, mU]
 cases h0 : inI k 0 (nodes.length - 1) with
 | false =>
  have hz : ye nodes k = 0 := by simp [ye, h0]
  simp +decide only [hz, hpin, go_sem, aD, mU]
 | true =>
  have hr := zy h0
  obtain ⟨n, rfl⟩ : ∃ n : Nat, k = n := ⟨k.toNat, by omega⟩
  have hl := yE nodes (n + 1)
  have hlt : n < (zG nodes (n + 1)).length := by omega
  have hg : (zG nodes (n + 1))[n] = ye nodes n := by
   have := Xf nodes (show n < n + 1 by omega)
   simp only [List.getD, hlt, lE, oD] at this
   rw [this]; simp [ye, h0, dAt]
  have hc : ((n : Int) < ((n + 1 : Nat) : Int)) = True := eq_true (by omega)
  simp +decide only [hpin, go_sem, aD, mU]
  refine zd (zcJ nodes n (by omega) hn hk) hpin ?_
  simp +decide only [hl, hc, zW _ _ hlt, hg, iN, hpin, go_sem, aD, mU]
inductive Reach (nodes : List NodeD) : Nat -> Nat -> Prop
 | refl (n : Nat) : Reach nodes n n
 | step {n m : Nat} {kid : Int} (h : Reach nodes n m) (hm : m < nodes.length) (hk : kid ∈ nodes[m].kids) : Reach nodes n kid.toNat
theorem Reach.trans {nodes : List NodeD} {a b c : Nat} (h : Reach nodes a b) (h' : Reach nodes b c) : Reach nodes a c := by
 induction h' with
 | refl => exact h
 | step _ hm hk ih => exact .step ih hm hk
theorem zcj {nodes : List NodeD} {n : Nat} (hd : dAt nodes n ≠ 0) : ∃ h : n < nodes.length, ∀ kid ∈ nodes[n].kids, 0 <= kid /\ kid < n /\ kid.toNat < n := by
 obtain ⟨h, hh⟩ := zkM (XN nodes n hd)
 refine ⟨h, fun kid hk => ?_⟩
 obtain ⟨i, hi, rfl⟩ := List.getElem_of_mem hk
 exact hh i hi
theorem Reach.le {nodes : List NodeD} {n m : Nat} (h : Reach nodes n m) (hd : dAt nodes n ≠ 0) : m <= n := by
 induction h with
 | refl => exact Nat.le_refl _
 | @step m kid h hm hk ih =>
  obtain ⟨_, hh⟩ := zcj (zaH nodes ih hd)
  have := hh kid hk
  omega
theorem Reach.head {nodes : List NodeD} {n m : Nat} (h : Reach nodes n m) : n = m \/ ∃ (hn : n < nodes.length) (kid : Int), kid ∈ nodes[n].kids /\ Reach nodes kid.toNat m := by
 induction h with
 | refl => exact Or.inl rfl
 | @step m kid h hm hk ih =>
  rcases ih with rfl | ⟨hn, k2, hk2, hr⟩
  · exact Or.inr ⟨hm, kid, hk, .refl _⟩
  · exact Or.inr ⟨hn, k2, hk2, .step hr hm hk⟩
open Classical in
noncomputable def zcx (nodes : List NodeD) (n : Nat) : List Nat := (List.range (n + 1)).filter fun m => decide (Reach nodes n m)
noncomputable def xn (nodes : List NodeD) (n : Nat) : List Int := (zcx nodes n).map fun (m : Nat) => (m : Int)
theorem Zd {nodes : List NodeD} {n m : Nat} (hd : dAt nodes n ≠ 0) : m ∈ zcx nodes n ↔ Reach nodes n m := by
 unfold zcx
 simp only [List.mem_filter, List.mem_range, decide_eq_true_eq]
 exact ⟨fun h => h.2, fun h => ⟨by have := h.le hd; omega, h⟩⟩
theorem zgh (nodes : List NodeD) (n : Nat) : (zcx nodes n).Pairwise (· < ·) := List.Pairwise.filter _ List.pairwise_lt_range
theorem Xk (nodes : List NodeD) (n : Nat) : (xn nodes n).Pairwise (· < ·) := by
 unfold xn
 rw [List.pairwise_map]
 exact (zgh nodes n).imp (fun h => by omega)
theorem zbk (nodes : List NodeD) (n : Nat) : (zcx nodes n).length <= n + 1 := by
 unfold zcx
 exact Nat.le_trans (List.length_filter_le _ _) (by simp)
def ints (l : List Nat) : List Int := l.map fun (m : Nat) => (m : Int)
theorem zA (l : List Nat) : (ints l).length = l.length := by simp [ints]
theorem zkN {l : List Nat} {m : Nat} : (m : Int) ∈ ints l ↔ m ∈ l := by
 unfold ints
 simp only [List.mem_map]
 exact ⟨fun ⟨a, ha, e⟩ => by have : a = m := by omega
                             rw [<- this]; exact ha, fun h => ⟨m, h, rfl⟩⟩
theorem zer (l : List Nat) : (row1 cI (ints l)).take l.length = row1 cI (ints l) := by
 have := yj cI (ints l)
 rwa [zA] at this
theorem zgV {l : List Nat} {k : Int} (h : 0 <= k) : (ints l).contains k = l.contains k.toNat := by
 rw [Bool.eq_iff_iff]
 simp only [List.contains_iff_mem]
 have e : k = (k.toNat : Int) := by omega
 conv => lhs; rw [e]
 exact zkN
theorem zes (l : List Nat) {k : Int} (h : 0 <= k) : row1 cI (ints l) ++ [[cI k]] = row1 cI (ints (l ++ [k.toNat])) := by
 have e : (k.toNat : Int) = k := by omega
 simp [row1, ints, e]
theorem znk (l : List Nat) {i : Nat} (h : i < l.length) : (row1 cI (ints l))[i]? = some [cI (l[i] : Int)] := by simp [row1, ints, h]
theorem Xz : ∀ {n : Nat} {l : List Nat}, l.Nodup -> (∀ x ∈ l, x < n) -> l.length <= n
 | 0, l, _, hl => by
  cases l with
  | nil => simp
  | cons x r => have := hl x List.mem_cons_self; omega
 | n + 1, l, h, hl => by
  by_cases hn : n ∈ l
  · have h1 := Xz (n := n) (l := l.erase n) (h.erase n) (fun x hx => by
     have := h.mem_erase_iff.1 hx
     have h2 := hl x this.2
     have h3 := this.1
     omega)
    rw [List.length_erase_of_mem hn] at h1
    omega
  · have := Xz (n := n) h (fun x hx => by
     have h2 := hl x hx
     have h3 : x ≠ n := fun e => hn (e ▸ hx)
     omega)
    omega
theorem zkI {l : List Nat} {n : Nat} (h : l.Nodup) (hl : ∀ x ∈ l, x <= n) : l.length <= n + 1 := Xz h (fun x hx => by have := hl x hx; omega)
structure Work (nodes : List NodeD) (n : Nat) (l : List Nat) (i : Nat) : Prop where
 nodup : l.Nodup
 reach : ∀ x ∈ l, Reach nodes n x
 root : n ∈ l
 done : ∀ p (hp : p < l.length), p < i -> ∀ (hl : l[p] < nodes.length), ∀ kid ∈ nodes[l[p]].kids, kid.toNat ∈ l
 le : i <= l.length
theorem zdt (nodes : List NodeD) (n : Nat) (hd : dAt nodes n ≠ 0) (hn : nodes.length <= 1048576) (hk : ∀ x ∈ nodes, x.kids.length <= 1048576) : zx Tryz.prog 80 [.ro (.imm 83 (rows (zg true) nodes)), .ro (.sc (.int .i64 n))] (fun rs st => rs = [(false, [.row false 3 (row1 cI (xn nodes n))])]) := by
 refine zp (fn := Tryz.f80) (c := Tryz.f80.body.getD .skip) (res := [.tm 4]) (n := 42) ze (by kernel_rfl) (by rfl) (by kernel_rfl) (by rfl) (by rfl) (by simp [zu]) (fun uf ub C hpin hpin2 hfull => ?_)
 simp only [Tryz.f80, oD]
 obtain ⟨hnl, _⟩ := zcj hd
 refine Tri.step ze ?_
 simp +decide only [hpin, go_sem, aD, mU]
 refine Tri.step ze ?_
 simp +decide only [hpin, go_sem, aD, mU]
 refine Tri.step ze ?_
 simp +decide only [hpin, go_sem, aD, mU]
 have e1 : row1 cI (ints [n]) = [[cI n]] := rfl
 refine Tri.loop (ι := List Nat × Nat) (fun q => Work nodes n q.1 q.2) (fun q => ⟨42, [(0, .imm 83 (rows (zg true) nodes)), (1, vI n), (5, .ref 5 [] q.1.length), (6, vI q.2)], [(5, .row 3 (row1 cI (ints q.1)))]⟩) (fun q => n + 1 - q.2) ([n], 0) ⟨by simp, fun x hx => by simp at hx; subst hx; exact .refl _, by simp, fun p hp hp2 => by omega, by simp⟩ ?_ ?_
 · refine Ent.weak ?_ ?_ ?_ ?_ <;> simp +decide [subT, subB, zj, zi, zm, St.get, look, vI, vB, vS, cI, cS, cB, zg, roI, ints, row1]
 · rintro ⟨l, i⟩ hW
   simp only at hW |-
   have hle : ∀ x ∈ l, x <= n := fun x hx => (hW.reach x hx).le hd
   have hll := zkI hW.nodup hle
   refine zf ze _ ?_
   by_cases h' : i < l.length
   · have e : ((i : Int) < (l.length : Int)) = True := by simp [h']
     have hli := hle l[i] (lM h')
     have hli2 : l[i] < nodes.length := by omega
     obtain ⟨_, hkid⟩ := zcj (zaH nodes hli hd)
     have hc1 : ((l[i] : Int) < (nodes.length : Int)) = True := eq_true (by omega)
     have hkx := hk nodes[l[i]] (lM hli2)
     generalize hx : nodes[l[i]] = x at hkid hkx
     simp +decide only [e, hc1, h', zA, znk l h', zk _ _ hli2, hx, zg, iN, vB, vI, hpin, go_sem, aD, mU]
     refine Tri.loop (ι := List Nat × Nat) (fun q => q.2 <= x.kids.length /\ Work nodes n q.1 i /\ l <+: q.1 /\ ∀ j (hj : j < x.kids.length), j < q.2 -> x.kids[j].toNat ∈ q.1) (fun q => ⟨42, [(0, .imm 83 (rows (zg true) nodes)), (1, vI n), (5, .ref 5 [] q.1.length), (6, vI i), (24, roI x.kids), (25, vI x.kids.length), (26, vI q.2)], [(5, .row 3 (row1 cI (ints q.1)))]⟩) (fun q => x.kids.length - q.2) (l, 0) ⟨by simp, hW, List.prefix_refl _, fun j hj h0 => by omega⟩ ?_ ?_
     · refine Ent.weak ?_ ?_ ?_ ?_ <;> simp +decide [subT, subB, zj, zi, zm, St.get, look, vI, vB, vS, cI, cS, cB, zg, roI]
     · rintro ⟨m, j⟩ ⟨hj, hV, hpre, hin⟩
       simp only at hj hV hpre hin |-
       have hle2 : ∀ x ∈ m, x <= n := fun x hx => (hV.reach x hx).le hd
       have hml := zkI hV.nodup hle2
       refine zf ze _ ?_
       have hmi : ∀ (h : i < m.length), m[i] = l[i] := fun h => by
        obtain ⟨t, rfl⟩ := hpre
        rw [List.getElem_append_left h']
       have hlm : l.length <= m.length := hpre.length_le
       by_cases hj' : j < x.kids.length
       · have e2 : ((j : Int) < (x.kids.length : Int)) = True := by simp [hj']
         obtain ⟨q0, q1, q2⟩ := hkid x.kids[j] (lM hj')
         simp +decide only [e2, zw _ _ hj', zA, iN, vB, vI, hpin, go_sem, aD, mU]
         refine zd (Zf (ints m) x.kids[j] (by rw [zA]; omega)) hpin ?_
         simp +decide only [zA, zer, hpin, go_sem, aD, mU]
         rw [zgV q0]
         cases hc : m.contains x.kids[j].toNat with
         | true =>
          simp +decide only [hc, hpin, go_sem, aD, mU]
          refine ⟨(m, j + 1), ⟨hj', hV, hpre, fun a ha ha2 => ?_⟩, by simp only; omega, Ent.weak ?_ ?_ ?_ ?_⟩
          · by_cases ea : a = j
            · subst ea; simpa using hc
            · exact hin a ha (by omega)
          all_goals simp +decide [subT, subB, zj, zi, zm, St.get, look, vI, vB, vS, cI, cS, cB, zg, roI, w64s (n := x.kids.length) hj' (by omega)]
         | false =>
          have hb1 : m.length + 1 <= 140737488355328 := by omega
          have hb2 : (m.length + 1) * 8 <= 140737488355328 := by omega
          have hsn := zes m q0
          simp +decide only [hc, zA, hb1, hb2, hpin, go_sem, aD, mU]
          have hnm : x.kids[j].toNat ∉ m := by simpa using hc
          refine ⟨(m ++ [x.kids[j].toNat], j + 1), ⟨hj', ⟨?_, ?_, ?_, ?_, ?_⟩, hpre.trans (List.prefix_append _ _), fun a ha ha2 => ?_⟩, by simp only; omega, Ent.weak ?_ ?_ ?_ ?_⟩
          · rw [List.nodup_append]
            exact ⟨hV.nodup, by simp, fun a ha b hb => by simp at hb; subst hb; exact fun e => hnm (e ▸ ha)⟩
          · intro a ha
            rcases List.mem_append.1 ha with ha | ha
            · exact hV.reach a ha
            · simp at ha; subst ha
              exact .step (hW.reach l[i] (lM h')) hli2 (by rw [hx]; exact lM hj')
          · exact List.mem_append_left _ hV.root
          · intro p hp hp2 hl kid hkk
            have hpm : p < m.length := by omega
            rw [List.getElem_append_left hpm] at hl
            have e5 : (m ++ [x.kids[j].toNat])[p] = m[p] := List.getElem_append_left hpm
            simp only [e5] at hkk
            exact List.mem_append_left _ (hV.done p hpm hp2 hl kid hkk)
          · simp; omega
          · by_cases ea : a = j
            · subst ea; simp
            · exact List.mem_append_left _ (hin a ha (by omega))
          all_goals simp +decide [subT, subB, zj, zi, zm, St.get, look, vI, vB, vS, cI, cS, cB, zg, roI, w64s (n := x.kids.length) hj' (by omega), <- hsn, row1, ints, Int.max_eq_left q0]
       · have hjl : j = x.kids.length := by omega
         subst hjl
         have e2 : ((x.kids.length : Int) < (x.kids.length : Int)) = False := by simp
         simp +decide only [e2, vB, vI, hpin, go_sem, aD, mU]
         refine ⟨(m, i + 1), ⟨hV.nodup, hV.reach, hV.root, fun p hp hp2 hl kid hkk => ?_, by simp only; omega⟩, by simp only; omega, Ent.weak ?_ ?_ ?_ ?_⟩
         · by_cases ep : p = i
           · subst ep
             simp only [hmi hp] at hl hkk
             rw [hx] at hkk
             obtain ⟨a, ha, rfl⟩ := List.getElem_of_mem hkk
             exact hin a ha ha
           · exact hV.done p hp (by omega) hl kid hkk
         all_goals simp +decide [subT, subB, zj, zi, zm, St.get, look, vI, vB, vS, cI, cS, cB, zg, roI, w64s (n := l.length) h' (by omega)]
   · have hil : i = l.length := by have := hW.le; omega
     subst hil
     have e : ((l.length : Int) < (l.length : Int)) = False := by simp
     have hs : xO (ints l) = xn nodes n := by
      refine zdC ?_ (Xk nodes n) (fun z => ?_)
      · unfold ints
        exact List.Pairwise.map _ (fun a b hab h => hab (by omega)) hW.nodup
      · have key : ∀ m, Reach nodes n m -> m ∈ l := fun m hm => by
         induction hm with
         | refl => exact hW.root
         | @step m kid h hm hk ih =>
          obtain ⟨p, hp, rfl⟩ := List.getElem_of_mem ih
          exact hW.done p hp hp hm kid hk
        unfold ints xn
        simp only [List.mem_map]
        exact ⟨fun ⟨m, hm, he⟩ => ⟨m, (Zd hd).2 (hW.reach m hm), he⟩, fun ⟨m, hm, he⟩ => ⟨m, key m ((Zd hd).1 hm), he⟩⟩
     have hul : (xn nodes n).length = l.length := by rw [<- hs, yC, zA]
     simp +decide only [e, vB, vI, hpin, go_sem, aD, mU]
     refine Tri.step ze ?_
     simp +decide only [zA, hpin, go_sem, aD, mU]
     refine xX (YG (ints l) (by rw [zA]; omega)) hpin [(2000, 5)] ⟨rfl, rfl, rfl⟩ (fun uf => ⟨rfl, rfl⟩) (fun uf => ?_) ?_
     · simp +decide only [zA, go_sem, aD, mU]
     simp +decide only [zA, yC, hs, hul, hpin, go_sem, aD, mU]
     refine zf ze _ ?_
     simp +decide only [zA, hul, hpin, go_sem, aD, mU]
noncomputable def zI (nodes : List NodeD) (k : Int) : List Int := if ye nodes k == 0 then [] else xn nodes k.toNat
theorem zaG {nodes : List NodeD} {k : Int} (h : (ye nodes k == 0) = false) : ∃ n : Nat, k = n /\ n < nodes.length /\ dAt nodes n ≠ 0 := by
 have hd : ye nodes k ≠ 0 := by simpa using h
 unfold ye at hd
 cases h0 : inI k 0 (nodes.length - 1) with
 | false => simp [h0] at hd
 | true =>
  have hr := zy h0
  rw [h0, if_pos rfl] at hd
  exact ⟨k.toNat, by omega, by omega, hd⟩
theorem yb {nodes : List NodeD} {k x : Int} (h : x ∈ zI nodes k) : 0 <= x /\ x.toNat < nodes.length /\ Reach nodes k.toNat x.toNat := by
 unfold zI at h
 cases hd : ye nodes k == 0 with
 | true => simp [hd] at h
 | false =>
  obtain ⟨n, rfl, hn, hdn⟩ := zaG hd
  simp only [hd, bF, if_false, xn, List.mem_map] at h
  obtain ⟨m, hm, rfl⟩ := h
  have hr := (Zd hdn).1 hm
  have := hr.le hdn
  exact ⟨by omega, by simp; omega, by simpa using hr⟩
theorem yB (nodes : List NodeD) (k : Int) : (zI nodes k).length <= nodes.length := by
 unfold zI
 cases hd : ye nodes k == 0 with
 | true => simp
 | false =>
  obtain ⟨n, rfl, hn, hdn⟩ := zaG hd
  have := zbk nodes n
  simp [xn]; omega
theorem Yv (p : ProgramD) (k : Int) (hn : p.nodes.length <= 1048576) (hk : ∀ x ∈ p.nodes, x.kids.length <= 1048576) : zx Tryz.prog 147 [.ro (zb p), .ro (.sc (.int .i64 k))] (fun rs st => rs = [(false, [.row false 3 (row1 cI (zI p.nodes k))])]) := by
 refine zp (fn := Tryz.f147) (c := Tryz.f147.body.getD .skip) (res := [.tm 4]) (n := 14) ze (by kernel_rfl) (by rfl) (by kernel_rfl) (by rfl) (by rfl) (by simp [zu]) (fun uf ub C hpin hpin2 hfull => ?_)
 simp only [Tryz.f147, oD]
 refine Tri.step ze ?_
 simp +decide only [zb, za, hpin, go_sem, aD, mU]
 refine Tri.ent ?_ (Ent.frb hfull 2)
 refine Tri.step ze ?_
 simp +decide only [zb, za, hpin, go_sem, aD, mU]
 refine zd (zbj p.nodes k hn hk) hpin ?_
 simp +decide only [zb, za, hpin, go_sem, aD, mU]
 cases hd : ye p.nodes k == 0 with
 | true =>
  have hu : zI p.nodes k = [] := by simp [zI, hd]
  have e0 : row1 cI ([] : List Int) = [] := rfl
  simp +decide only [hu, e0, hpin, go_sem, aD, mU]
 | false =>
  obtain ⟨n, rfl, hnl, hdn⟩ := zaG hd
  have hu : zI p.nodes n = xn p.nodes n := by simp [zI, hd]
  rw [hu]
  simp +decide only [zb, za, hpin, go_sem, aD, mU]
  refine zf ze _ ?_
  simp +decide only [zb, za, hpin, go_sem, aD, mU]
  refine zd (zdt p.nodes n hdn hn hk) hpin ?_
  simp +decide only [zb, za, hpin, go_sem, aD, mU]
open Classical in
open Classical in
open Classical in
open Classical in
open Classical in
theorem zhX {p : ProgramD} (h : zF p <= 1048576) : p.nodes.length <= 1048576 /\ ∀ x ∈ p.nodes, x.kids.length <= 1048576 := by
 unfold zF at h
 refine ⟨by omega, fun y hy => ?_⟩
 obtain ⟨i, hi, rfl⟩ := List.getElem_of_mem hy
 have h1 := Zy zC hi
 have h3 : p.nodes[i].kids.length <= zC p.nodes[i] := by unfold zC; omega
 omega
open Classical in
noncomputable def ofP (n : Nat) (P : Nat -> Prop) : List Bool := (List.range n).map fun m => decide (P m)
theorem zh (n : Nat) (P : Nat -> Prop) : (ofP n P).length = n := by simp [ofP]
open Classical in
theorem Xy {n : Nat} {P : Nat -> Prop} {i : Nat} (h : i < n) : (row1 cB (ofP n P))[i]? = some [cB (decide (P i))] := by simp [row1, ofP, h]
open Classical in
theorem zea {n : Nat} {P : Nat -> Prop} {i : Nat} (h : i < n) : (row1 cB (ofP n P)).getD i [] = [cB (decide (P i))] := by simp [List.getD, Xy h]
theorem xB {n : Nat} {P Q : Nat -> Prop} (h : ∀ m, m < n -> (P m ↔ Q m)) : ofP n P = ofP n Q := by
 unfold ofP
 apply List.map_congr_left
 intro m hm
 exact decide_eq_decide.2 (h m (List.mem_range.1 hm))
theorem zmU {n : Nat} {P : Nat -> Prop} {i : Nat} (h : i < n) : (row1 cB (ofP n P)).set i [cB true] = row1 cB (ofP n (fun m => P m \/ m = i)) := by
 apply List.ext_getElem?
 intro j
 by_cases hj : j < n
 · rw [Xy hj]
   by_cases e : i = j
   · subst e
     rw [List.getElem?_set_self (by rw [zU, zh]; exact h)]
     simp
   · rw [List.getElem?_set_ne e, Xy hj]
     congr 3
     exact decide_eq_decide.2 ⟨Or.inl, fun hh => hh.elim id (fun he => (e he.symm).elim)⟩
 · rw [List.getElem?_eq_none (by rw [List.length_set, zU, zh]; omega), List.getElem?_eq_none (by rw [zU, zh]; omega)]
theorem zbx (n : Nat) : List.replicate n [cB false] = row1 cB (ofP n (fun _ => False)) := by
 apply List.ext_getElem?
 intro j
 by_cases hj : j < n
 · rw [Xy hj]; simp [hj]
 · rw [List.getElem?_eq_none (by simp; omega), List.getElem?_eq_none (by rw [zU, zh]; omega)]
theorem zaA (nodes : List NodeD) (hn : nodes.length <= 1048576) (hk : ∀ x ∈ nodes, x.kids.length <= 1048576) (n : Nat) : dAt nodes n ≠ 0 -> ∀ P : Nat -> Prop, (∀ m, m <= n -> P m -> ∀ q, Reach nodes m q -> P q) ->
 SoundAt Tryz.prog 152 (fun uf => zu 0 [.ro (.imm 83 (rows (zg true) nodes)), .ro (.sc (.int .i64 n)), .ro (.ref 2000 [] nodes.length)]) [(2000, .row 4 (row1 cB (ofP nodes.length P)))]
  (fun rs st => rs = [] /\ xr st.ob [(2000, .row 4 (row1 cB (ofP nodes.length (fun m => P m \/ Reach nodes n m))))]) := by
 classical
 induction n using Nat.strongRecOn with
 | ind n ih =>
 intro hd P hP
 obtain ⟨hnl, hkid⟩ := zcj hd
 have hkx := hk nodes[n] (lM hnl)
 have hrec : ∀ kid ∈ nodes[n].kids, ∀ Q : Nat -> Prop, (∀ m, m <= kid.toNat -> Q m -> ∀ q, Reach nodes m q -> Q q) ->
  SoundAt Tryz.prog 152 (fun uf => zu 0 [.ro (.imm 83 (rows (zg true) nodes)), .ro (.sc (.int .i64 kid)), .ro (.ref 2000 [] nodes.length)]) [(2000, .row 4 (row1 cB (ofP nodes.length Q)))]
   (fun rs st => rs = [] /\ xr st.ob [(2000, .row 4 (row1 cB (ofP nodes.length (fun m => Q m \/ Reach nodes kid.toNat m))))]) := fun kid hkk Q hQ => by
  obtain ⟨q0, q1, q2⟩ := hkid kid hkk
  have e : kid = (kid.toNat : Int) := by omega
  have := ih kid.toNat q2 (zaH nodes (by omega) hd) Q hQ
  rw [<- e] at this
  exact this
 have hsub : ∀ kid ∈ nodes[n].kids, ∀ m, Reach nodes kid.toNat m -> Reach nodes n m := fun kid hkk m hm => (Reach.step (.refl n) hnl hkk).trans hm
 have hall : ∀ m, Reach nodes n m -> n = m \/ ∃ kid, kid ∈ nodes[n].kids /\ Reach nodes kid.toNat m := fun m hm => by
  rcases hm.head with h | ⟨_, kid, h1, h2⟩
  · exact Or.inl h
  · exact Or.inr ⟨kid, h1, h2⟩
 generalize hx : nodes[n] = x at hkx hkid hrec hsub hall
 have hc1 : ((n : Int) < (nodes.length : Int)) = True := eq_true (by omega)
 refine yL (fn := Tryz.f152) (c := Tryz.f152.body.getD .skip) (res := []) (n := 35) ze (by kernel_rfl) (by rfl) (by kernel_rfl) (by rfl) (by rfl) (by simp [zu]) (fun uf ub C hpin hpin2 hfull => ?_)
 simp +decide only [Tryz.f152, hc1, hnl, Xy hnl, iN, zh, hpin, hpin2, go_sem, aD, mU]
 by_cases hp : P n
 · have hf : ofP nodes.length (fun m => P m \/ Reach nodes n m) = ofP nodes.length P := xB (fun m _ => ⟨fun h => h.elim id (fun h => hP n (Nat.le_refl n) hp m h), Or.inl⟩)
   have hp1 : decide (P n) = true := decide_eq_true hp
   simp +decide only [hp1, hf, zh, hpin, hpin2, go_sem, aD, mU]
 have hp1 : decide (P n) = false := decide_eq_false hp
 simp +decide only [hp1, hc1, hnl, zmU hnl, iN, zh, hpin, hpin2, go_sem, aD, mU]
 let Q : Nat -> Nat -> Prop := fun i m => (P m \/ m = n) \/ ∃ j, ∃ (hj : j < x.kids.length), j < i /\ Reach nodes x.kids[j].toNat m
 refine Tri.loop (ι := Nat) (fun i => i <= x.kids.length) (fun i => ⟨35, [(0, .imm 83 (rows (zg true) nodes)), (1, vI n), (2, .ref 2000 [] nodes.length), (6, vI i)], [(2000, .row 4 (row1 cB (ofP nodes.length (Q i))))]⟩) (fun i => x.kids.length - i) 0 (by simp) ?_ ?_
 · have e0 : ofP nodes.length (Q 0) = ofP nodes.length (fun m => P m \/ m = n) := xB (fun m _ => ⟨fun h => h.elim id (fun ⟨j, hj, h0, _⟩ => by omega), Or.inl⟩)
   have hs2 := zmU (P := P) hnl
   have hq2 := Xy (P := P) hnl
   simp only [cB] at hs2 hq2
   refine Ent.weak ?_ ?_ ?_ ?_ <;> simp +decide [subT, subB, zj, zi, zm, St.get, look, vI, vB, vS, cI, cS, cB, zg, roI, e0, hq2, hs2]
 · rintro i hi
   refine zf ze _ ?_
   by_cases h' : i < x.kids.length
   · have e : ((i : Int) < (x.kids.length : Int)) = True := by simp [h']
     have hmem := lM h'
     obtain ⟨q0, q1, q2⟩ := hkid _ hmem
     have hQ : ∀ m, m <= x.kids[i].toNat -> Q i m -> ∀ q, Reach nodes m q -> Q i q := fun m hm hq q hr => by
      rcases hq with (hq | hq) | ⟨j, hj, hji, hq⟩
      · exact Or.inl (Or.inl (hP m (by omega) hq q hr))
      · omega
      · exact Or.inr ⟨j, hj, hji, hq.trans hr⟩
     have hnext : ofP nodes.length (fun m => Q i m \/ Reach nodes x.kids[i].toNat m) = ofP nodes.length (Q (i + 1)) := xB (fun m _ => by
      constructor
      · rintro ((h | ⟨j, hj, hji, h⟩) | h)
        · exact Or.inl h
        · exact Or.inr ⟨j, hj, by omega, h⟩
        · exact Or.inr ⟨i, h', by omega, h⟩
      · rintro (h | ⟨j, hj, hji, h⟩)
        · exact Or.inl (Or.inl h)
        · by_cases ej : j = i
          · subst ej; exact Or.inr h
          · exact Or.inl (Or.inr ⟨j, hj, by omega, h⟩))
     have hs := hrec x.kids[i] hmem (Q i) hQ
     rw [hnext] at hs
     simp +decide only [e, hc1, zk _ _ hnl, hx, zg, zw _ _ h', iN, vB, vI, zh, hpin, hpin2, go_sem, aD, mU]
     refine xX hs hpin [(2000, 2000)] ⟨rfl, rfl, rfl⟩ (fun uf => ⟨rfl, rfl⟩) (fun uf => ?_) ?_
     · simp +decide only [zh, hpin, hpin2, go_sem, aD, mU]
     simp +decide only [zh, hpin, hpin2, go_sem, aD, mU]
     refine ⟨i + 1, h', by omega, Ent.weak ?_ ?_ ?_ ?_⟩
     all_goals simp +decide [subT, subB, zj, zi, zm, St.get, look, vI, vB, vS, cI, cS, cB, zg, roI, w64s (n := x.kids.length) h' (by omega)]
   · have hil : i = x.kids.length := by omega
     subst hil
     have e : ((x.kids.length : Int) < (x.kids.length : Int)) = False := by simp
     have hf : ofP nodes.length (Q x.kids.length) = ofP nodes.length (fun m => P m \/ Reach nodes n m) := xB (fun m _ => by
      constructor
      · rintro ((h | rfl) | ⟨j, hj, _, h⟩)
        · exact Or.inl h
        · exact Or.inr (.refl _)
        · exact Or.inr (hsub _ (lM hj) m h)
      · rintro (h | h)
        · exact Or.inl (Or.inl h)
        · rcases hall m h with rfl | ⟨kid, hkk, hr⟩
          · exact Or.inl (Or.inr rfl)
          · obtain ⟨j, hj, rfl⟩ := List.getElem_of_mem hkk
            exact Or.inr ⟨j, hj, hj, hr⟩)
     rw [hf]
     simp +decide only [e, hc1, zk _ _ hnl, hx, zg, iN, vB, vI, zh, hpin, hpin2, go_sem, aD, mU]
theorem zqc : elT Tryz.prog 160 = some 4 := by kernel_rfl
theorem zrz : zeroCells Tryz.prog 4 = some [.bool false] := by kernel_rfl
theorem zrt : ZJ Tryz.prog 4 = 1 := by kernel_rfl
attribute [go_sem] zqc zrz zrt
open Classical in
noncomputable def pick (P : Nat -> Prop) (i : Nat) : List Nat := (List.range i).filter fun m => decide (P m)
theorem Xv (P : Nat -> Prop) (i : Nat) : (pick P i).length <= i := by
 unfold pick; exact Nat.le_trans (List.length_filter_le _ _) (by simp)
theorem zib {P : Nat -> Prop} {i : Nat} (h : P i) : pick P (i + 1) = pick P i ++ [i] := by
 unfold pick; rw [List.range_succ, List.filter_append]; simp [h]
theorem zfH {P : Nat -> Prop} {i : Nat} (h : ¬ P i) : pick P (i + 1) = pick P i := by
 unfold pick; rw [List.range_succ, List.filter_append]; simp [h]
theorem zgA {P : Nat -> Prop} {i m : Nat} : m ∈ pick P i ↔ m < i /\ P m := by
 unfold pick; simp
theorem Xu (P : Nat -> Prop) (i : Nat) : (ints (pick P i)).Pairwise (· < ·) := by
 unfold ints pick
 rw [List.pairwise_map]
 exact (List.Pairwise.filter _ List.pairwise_lt_range).imp (fun h => by omega)
theorem Xd {l : List Nat} {x : Int} : x ∈ ints l ↔ 0 <= x /\ x.toNat ∈ l := by
 unfold ints
 simp only [List.mem_map]
 exact ⟨fun ⟨a, ha, e⟩ => by subst e; exact ⟨by omega, by simpa using ha⟩, fun ⟨h0, h⟩ => ⟨x.toNat, h, by omega⟩⟩
theorem zll {nodes : List NodeD} {n : Nat} (hd : dAt nodes n ≠ 0) : ints (pick (fun m => Reach nodes n m) nodes.length) = xn nodes n := by
 refine zbs (Xu _ _) (Xk nodes n) (fun x => ?_)
 show x ∈ ints _ ↔ x ∈ ints (zcx nodes n)
 rw [Xd, Xd, zgA, Zd hd]
 obtain ⟨hnl, _⟩ := zcj hd
 exact ⟨fun ⟨h0, _, h⟩ => ⟨h0, h⟩, fun ⟨h0, h⟩ => ⟨h0, by have := h.le hd; omega, h⟩⟩
open Classical in
theorem Yu (p : ProgramD) (k : Int) (hn : p.nodes.length <= 1048576) (hk : ∀ x ∈ p.nodes, x.kids.length <= 1048576) : zx Tryz.prog 78 [.ro (zb p), .ro (.sc (.int .i64 k))] (fun rs st => rs = [(false, [.row false 3 (row1 cI (zI p.nodes k))])]) := by
 refine zp (fn := Tryz.f78) (c := Tryz.f78.body.getD .skip) (res := [.tm 4]) (n := 39) ze (by kernel_rfl) (by rfl) (by kernel_rfl) (by rfl) (by rfl) (by simp [zu]) (fun uf ub C hpin hpin2 hfull => ?_)
 simp only [Tryz.f78, oD]
 refine Tri.step ze ?_
 simp +decide only [zb, za, zh, hpin, go_sem, aD, mU]
 refine Tri.ent ?_ (Ent.frb hfull 2)
 refine Tri.step ze ?_
 simp +decide only [zb, za, zh, hpin, go_sem, aD, mU]
 refine Tri.step ze ?_
 simp +decide only [zb, za, zh, hpin, go_sem, aD, mU]
 refine zd (ziO p.nodes k hn hk) hpin ?_
 simp +decide only [zb, za, zh, hpin, go_sem, aD, mU]
 cases hd : ye p.nodes k == 0 with
 | true =>
  have hu : zI p.nodes k = [] := by simp [zI, hd]
  have e0 : row1 cI ([] : List Int) = [] := rfl
  simp +decide only [hu, e0, zh, hpin, go_sem, aD, mU]
 | false =>
 obtain ⟨n, rfl, hnl, hdn⟩ := zaG hd
 have hu : zI p.nodes n = xn p.nodes n := by simp [zI, hd]
 rw [hu]
 have hm1 : ((1 : Nat) : Int) * (p.nodes.length : Int) <= 281474976710656 := by omega
 have hm2 : (p.nodes.length : Int) <= 140737488355328 := by omega
 have hof := zbx p.nodes.length
 simp only [cB] at hof
 simp +decide only [zb, za, zh, hpin, go_sem, aD, mU]
 refine Tri.step ze ?_
 simp +decide only [hm1, hm2, hof, iN, za, zh, hpin, go_sem, aD, mU]
 refine Tri.step ze ?_
 simp +decide only [za, zh, hpin, go_sem, aD, mU]
 have hmk := zaA p.nodes hn hk n hdn (fun _ => False) (fun m _ h => h.elim)
 have e9 : (fun m => False \/ Reach p.nodes n m) = fun m => Reach p.nodes n m := by funext m; simp
 rw [e9] at hmk
 have htk : List.take p.nodes.length (row1 cB (ofP p.nodes.length (fun m => Reach p.nodes n m))) = row1 cB (ofP p.nodes.length (fun m => Reach p.nodes n m)) := by
  have := yj cB (ofP p.nodes.length (fun m => Reach p.nodes n m))
  rwa [zh] at this
 refine xX hmk hpin [(2000, 6)] ⟨rfl, rfl, rfl⟩ (fun uf => ⟨rfl, rfl⟩) (fun uf => ?_) ?_
 · simp +decide only [zh, hpin, go_sem, aD, mU]
 simp +decide only [zh, hpin, go_sem, aD, mU]
 refine Tri.ent ?_ (Ent.frz hfull 6)
 refine zf ze _ ?_
 simp +decide only [htk, zh, hpin, go_sem, aD, mU]
 have hfin := zll hdn
 generalize hP : (fun m => Reach p.nodes n m) = P at hfin htk |-
 refine Tri.loop (ι := Nat) (fun i => i <= p.nodes.length) (fun i => ⟨39, [(2, .ip (za true p) 0), (5, .ref 5 [] (pick P i).length), (6, .imm 4 (row1 cB (ofP p.nodes.length P))), (7, vI i)], [(5, .row 3 (row1 cI (ints (pick P i))))]⟩) (fun i => p.nodes.length - i) 0 (by simp) ?_ ?_
 · refine Ent.weak ?_ ?_ ?_ ?_ <;> simp +decide [subT, subB, zj, zi, zm, St.get, look, vI, vB, vS, cI, cS, cB, zg, roI, za, pick, ints, htk, zdo]
   all_goals rfl
 · rintro i hi
   refine zf ze _ ?_
   have hpl := Xv P i
   by_cases h' : i < p.nodes.length
   · have e : ((i : Int) < (p.nodes.length : Int)) = True := by simp [h']
     have hb1 : (pick P i).length + 1 <= 140737488355328 := by omega
     have hb2 : ((pick P i).length + 1) * 8 <= 140737488355328 := by omega
     simp +decide only [e, zea h', iN, vB, vI, zh, hpin, go_sem, aD, mU]
     by_cases hp : P i
     · have hp1 : decide (P i) = true := decide_eq_true hp
       have hpk := zib hp
       simp +decide only [hp1, zA, hb1, hb2, zh, hpin, go_sem, aD, mU]
       refine ⟨i + 1, h', by omega, Ent.weak ?_ ?_ ?_ ?_⟩
       all_goals simp +decide [subT, subB, zj, zi, zm, St.get, look, vI, vB, vS, cI, cS, cB, zg, roI, hpk, ints, row1, w64s (n := p.nodes.length) h' (by omega)]
     · have hp1 : decide (P i) = false := decide_eq_false hp
       have hpk := zfH hp
       simp +decide only [hp1, zh, hpin, go_sem, aD, mU]
       refine ⟨i + 1, h', by omega, Ent.weak ?_ ?_ ?_ ?_⟩
       all_goals simp +decide [subT, subB, zj, zi, zm, St.get, look, vI, vB, vS, cI, cS, cB, zg, roI, hpk, w64s (n := p.nodes.length) h' (by omega)]
   · have hil : i = p.nodes.length := by omega
     subst hil
     have e : ((p.nodes.length : Int) < (p.nodes.length : Int)) = False := by simp
     have hul : (xn p.nodes n).length = (pick P p.nodes.length).length := by rw [<- hfin, zA]
     simp +decide only [e, hfin, hul, vB, vI, zh, hpin, go_sem, aD, mU]
theorem zlg {P : Program} {C : Cx} {st : St} {K : St -> Prop} {f : FuncId} {ags : List Arg} {ι : Type} {Inv : ι -> Prop} {R : ι -> List RV} (hs : zx P f ags (fun rs _ => ∃ i, Inv i /\ rs = R i)) (hpin : ∀ o, xu o = false -> C.pin o = none) {vs : List V} {d : Option Nat}
 (h1 : (xP st vs ags).1 /\ Yi ⟨[], fun _ => undef, pvOf C, (xP st vs ags).2.ob, Zi 0 ags⟩ vs ags) (h : ∀ i, Inv i -> zef (R i) = true /\ ev (b := ⟨K⟩) (zaq (xP st vs ags).2 d (R i))) : XT (b := ⟨K⟩) P C st f vs d :=
 zaS hs (pin3 hpin) h1.1 h1.2 (fun rs _ ⟨i, hi, hr⟩ => by rw [hr]; exact (h i hi).1) (fun rs _ ⟨i, hi, hr⟩ => by rw [hr]; exact (h i hi).2)
inductive RB (nodes : List NodeD) : Nat -> Nat -> Prop
 | refl (n : Nat) : RB nodes n n
 | step {n m : Nat} {kid : Int} (h : RB nodes n m) (hm : m < nodes.length) (hk : kid ∈ nodes[m].kids) (hb : (nAt nodes kid).kind ≠ 20) : RB nodes n kid.toNat
theorem RB.trans {nodes : List NodeD} {a b c : Nat} (h : RB nodes a b) (h' : RB nodes b c) : RB nodes a c := by
 induction h' with
 | refl => exact h
 | step _ hm hk hb ih => exact .step ih hm hk hb
theorem RB.reach {nodes : List NodeD} {a b : Nat} (h : RB nodes a b) : Reach nodes a b := by
 induction h with
 | refl => exact .refl _
 | step _ hm hk hb ih => exact .step ih hm hk
theorem znV (k : Int) : (zJ k).2 <= 12 := by
 have key : ∀ (c : Bool) (a b : Int × Int), a.2 <= 12 -> b.2 <= 12 -> (if c = true then a else b).2 <= 12 := fun c a b ha hb => by cases c <;> simp [ha, hb]
 unfold zJ
 repeat' apply key
 all_goals decide
def W (nodes : List NodeD) (n : Nat) : Nat := 13 ^ (dAt nodes n).toNat
def Ws (nodes : List NodeD) (l : List Nat) : Nat := (l.map (W nodes)).sum
structure Walk (nodes : List NodeD) (s : Nat) (l : List Nat) (i : Nat) : Prop where
 reach : ∀ x ∈ l, RB nodes s x
 root : s ∈ l
 done : ∀ p (hp : p < l.length), p < i -> ∀ (hl : l[p] < nodes.length), ∀ kid ∈ nodes[l[p]].kids, (nAt nodes kid).kind ≠ 20 -> kid.toNat ∈ l
 le : i <= l.length
 few : i + Ws nodes (l.drop i) <= W nodes s
open Classical in
def fd0 : FnD := ⟨⟨#[]⟩, [], 0, 0, 0⟩
def fAt (fns : List FnD) (j : Int) : FnD := fns.getD j.toNat fd0
theorem yS {fns : List FnD} {n : Nat} (h : n < fns.length) : fAt fns (n : Int) = fns[n] := by simp [fAt, List.getD, h]
def zbJ (s : ByteArray) : List FnD -> Nat -> Int
 | [], _ => -1
 | f :: r, i => if f.name = s then (i : Int) else zbJ s r (i + 1)
def xd (fns : List FnD) (s : ByteArray) : Int := zbJ s fns 0
theorem Yo (s : ByteArray) : ∀ (l : List FnD) (i : Nat), zbJ s l i = -1 \/ ((i : Int) <= zbJ s l i /\ zbJ s l i < (i + l.length : Nat))
 | [], i => Or.inl rfl
 | f :: r, i => by
  unfold zbJ
  by_cases h : f.name = s
  · rw [if_pos h]; right; simp; omega
  · rw [if_neg h]
    rcases Yo s r (i + 1) with h1 | h1
    · exact Or.inl h1
    · right; simp only [List.length_cons]; omega
theorem Ym (p : ProgramD) (s : ByteArray) (hf : p.fns.length <= 1048576) : zx Tryz.prog 90 [.ro (zb p), .ro (.sc (.string s))] (fun rs st => rs = [(false, [cI (xd p.fns s)])]) := by
 refine zp (fn := Tryz.f90) (c := Tryz.f90.body.getD .skip) (res := [.tm 4]) (n := 21) ze (by kernel_rfl) (by rfl) (by kernel_rfl) (by rfl) (by rfl) (by simp [zu]) (fun uf ub C hpin hpin2 hfull => ?_)
 simp only [Tryz.f90, oD]
 refine Tri.step ze ?_
 simp +decide only [zb, za, hpin, go_sem, aD, mU]
 refine Tri.ent ?_ (Ent.frb hfull 2)
 refine Tri.step ze ?_
 simp +decide only [zb, za, hpin, go_sem, aD, mU]
 refine Tri.loop (ι := Nat) (fun i => i <= p.fns.length /\ xd p.fns s = zbJ s (p.fns.drop i) i) (fun i => ⟨21, [(1, vS s), (8, .imm 104 (rows (fnC true) p.fns)), (9, vI p.fns.length), (10, vI i)], []⟩) (fun i => p.fns.length - i) 0 ⟨by simp, rfl⟩ ?_ ?_
 · refine Ent.weak ?_ ?_ ?_ ?_ <;> simp +decide [subT, subB, zj, zi, zm, St.get, look, vI, vB, vS, cI, cS, cB, zg, roI]
 · rintro i ⟨hi, hq⟩
   refine zf ze _ ?_
   by_cases h' : i < p.fns.length
   · have e : ((i : Int) < (p.fns.length : Int)) = True := by simp [h']
     rw [List.drop_eq_getElem_cons h', zbJ] at hq
     simp +decide only [e, h', zk _ _ h', fnC, iN, vB, vI, vS, hpin, go_sem, aD, mU]
     by_cases hs : p.fns[i].name = s
     · have h1 : decide (p.fns[i].name = s) = true := decide_eq_true hs
       rw [if_pos hs] at hq
       simp +decide only [h1, hq, hpin, go_sem, aD, mU]
     · have h1 : decide (p.fns[i].name = s) = false := decide_eq_false hs
       rw [if_neg hs] at hq
       simp +decide only [h1, hpin, go_sem, aD, mU]
       refine ⟨i + 1, ⟨h', hq⟩, by omega, Ent.weak ?_ ?_ ?_ ?_⟩
       all_goals simp +decide [subT, subB, zj, zi, zm, St.get, look, vI, vB, vS, cI, cS, cB, zg, roI, w64s (n := p.fns.length) h' (by omega)]
   · have hil : i = p.fns.length := by omega
     subst hil
     have e : ((p.fns.length : Int) < (p.fns.length : Int)) = False := by simp
     rw [List.drop_length] at hq
     have hq2 : xd p.fns s = -1 := hq
     simp +decide only [e, hq2, vB, vI, hpin, go_sem, aD, mU]
     refine zf ze _ ?_
     simp +decide only [hq2, hpin, go_sem, aD, mU]
theorem XL (p : ProgramD) (s : ByteArray) (hf : p.fns.length <= 1048576) : zx Tryz.prog 86 [.ro (zb p), .ro (.sc (.string s))] (fun rs st => rs = [(false, [cI (xd p.fns s)])]) := by
 refine zp (fn := Tryz.f86) (c := Tryz.f86.body.getD .skip) (res := [.tm 4]) (n := 22) ze (by kernel_rfl) (by rfl) (by kernel_rfl) (by rfl) (by rfl) (by simp [zu]) (fun uf ub C hpin hpin2 hfull => ?_)
 simp only [Tryz.f86, oD]
 refine Tri.step ze ?_
 simp +decide only [zb, za, hpin, go_sem, aD, mU]
 refine Tri.ent ?_ (Ent.frb hfull 2)
 refine Tri.step ze ?_
 simp +decide only [zb, za, hpin, go_sem, aD, mU]
 refine Tri.loop (ι := Nat) (fun i => i <= p.fns.length /\ xd p.fns s = zbJ s (p.fns.drop i) i) (fun i => ⟨22, [(1, vS s), (2, .ip (za true p) 0), (5, vI i)], []⟩) (fun i => p.fns.length - i) 0 ⟨by simp, rfl⟩ ?_ ?_
 · refine Ent.weak ?_ ?_ ?_ ?_ <;> simp +decide [subT, subB, zj, zi, zm, St.get, look, vI, vB, vS, cI, cS, cB, zg, roI, za]
 · rintro i ⟨hi, hq⟩
   refine zf ze _ ?_
   by_cases h' : i < p.fns.length
   · have e : ((i : Int) < (p.fns.length : Int)) = True := by simp [h']
     rw [List.drop_eq_getElem_cons h', zbJ] at hq
     simp +decide only [e, h', zk _ _ h', fnC, za, iN, vB, vI, vS, hpin, go_sem, aD, mU]
     by_cases hs : p.fns[i].name = s
     · have h1 : decide (p.fns[i].name = s) = true := decide_eq_true hs
       rw [if_pos hs] at hq
       simp +decide only [h1, hq, hpin, go_sem, aD, mU]
     · have h1 : decide (p.fns[i].name = s) = false := decide_eq_false hs
       rw [if_neg hs] at hq
       simp +decide only [h1, hpin, go_sem, aD, mU]
       refine ⟨i + 1, ⟨h', hq⟩, by omega, Ent.weak ?_ ?_ ?_ ?_⟩
       all_goals simp +decide [subT, subB, zj, zi, zm, St.get, look, vI, vB, vS, cI, cS, cB, zg, roI, za, w64s (n := p.fns.length) h' (by omega)]
   · have hil : i = p.fns.length := by omega
     subst hil
     have e : ((p.fns.length : Int) < (p.fns.length : Int)) = False := by simp
     rw [List.drop_length] at hq
     have hq2 : xd p.fns s = -1 := hq
     simp +decide only [e, hq2, za, vB, vI, hpin, go_sem, aD, mU]
     refine zf ze _ ?_
     simp +decide only [hq2, hpin, go_sem, aD, mU]
def zbr (p : ProgramD) (fn : Int) : List Int := if inI fn 0 (p.fns.length - 1) then (fAt p.fns fn).body :: (if (fAt p.fns fn).ret == -1 then [] else [(fAt p.fns fn).ret]) else []
theorem zgz (p : ProgramD) (fn : Int) : (zbr p fn).length <= 2 := by
 unfold zbr
 split
 · split <;> simp
 · simp
def inFn (p : ProgramD) (fn : Int) (m : Nat) : Prop := ∃ k ∈ zbr p fn, (m : Int) ∈ zI p.nodes k
noncomputable def fnNs (p : ProgramD) (fn : Int) : List Int := ints (pick (inFn p fn) p.nodes.length)
theorem YN {nodes : List NodeD} {k : Int} {m : Nat} (h : (m : Int) ∈ zI nodes k) : m < nodes.length := by
 have := (yb h).2.1
 simpa using this
theorem zdn (p : ProgramD) (fn : Int) (x : Int) : x ∈ fnNs p fn ↔ ∃ k ∈ zbr p fn, x ∈ zI p.nodes k := by
 unfold fnNs
 rw [Xd, zgA]
 constructor
 · rintro ⟨h0, _, k, hk, h⟩
   exact ⟨k, hk, by rw [show x = (x.toNat : Int) by omega]; exact h⟩
 · rintro ⟨k, hk, h⟩
   have h1 := yb h
   exact ⟨h1.1, h1.2.1, k, hk, by rw [show ((x.toNat : Nat) : Int) = x by omega]; exact h⟩
theorem Xj (nodes : List NodeD) (k : Int) : (zI nodes k).Pairwise (· < ·) := by
 unfold zI
 split
 · exact List.Pairwise.nil
 · exact Xk _ _
theorem XK (p : ProgramD) (fn : Int) : (fnNs p fn).length <= p.nodes.length := by
 unfold fnNs; rw [zA]; exact Xv _ _
theorem zjy (p : ProgramD) (fn : Int) (hf : p.fns.length <= 1048576) : zx Tryz.prog 155 [.ro (zb p), .ro (.sc (.int .i64 fn))] (fun rs st => rs = [(false, [.row false 3 (row1 cI (zbr p fn))])]) := by
 refine zp (fn := Tryz.f155) (c := Tryz.f155.body.getD .skip) (res := [.tm 4]) (n := 37) ze (by kernel_rfl) (by rfl) (by kernel_rfl) (by rfl) (by rfl) (by simp [zu]) (fun uf ub C hpin hpin2 hfull => ?_)
 simp only [Tryz.f155, oD]
 have w1 : IntKind.i64.wrap ((p.fns.length : Int) - 1) = (p.fns.length : Int) - 1 := w64 (by omega) (by omega)
 have e0 : row1 cI ([] : List Int) = [] := rfl
 refine Tri.step ze ?_
 simp +decide only [zb, za, hpin, go_sem, aD, mU]
 refine Tri.ent ?_ (Ent.frb hfull 2)
 refine Tri.step ze ?_
 simp +decide only [w1, zb, za, hpin, go_sem, aD, mU]
 refine zd (in' fn 0 (p.fns.length - 1)) hpin ?_
 unfold zbr
 cases h0 : inI fn 0 (p.fns.length - 1) with
 | false => simp +decide only [e0, hpin, go_sem, aD, mU]
 | true =>
 have hr := zy h0
 obtain ⟨f, rfl⟩ : ∃ f : Nat, fn = f := ⟨fn.toNat, by omega⟩
 have hfl : f < p.fns.length := by omega
 have c1 : ((f : Int) < (p.fns.length : Int)) = True := eq_true (by omega)
 rw [yS hfl]
 cases h1 : p.fns[f].ret == -1 with
 | true =>
  simp +decide only [h1, row1, hpin, go_sem, aD, mU]
  refine Tri.step ze ?_
  simp +decide only [c1, zk _ _ hfl, fnC, zb, za, iN, hpin, go_sem, aD, mU]
  refine Tri.step ze ?_
  simp +decide only [c1, h1, zk _ _ hfl, fnC, bne, zb, za, iN, hpin, go_sem, aD, mU]
  refine zf ze _ ?_
  simp +decide only [row1, hpin, go_sem, aD, mU]
 | false =>
  simp +decide only [h1, row1, hpin, go_sem, aD, mU]
  refine Tri.step ze ?_
  simp +decide only [c1, zk _ _ hfl, fnC, zb, za, iN, hpin, go_sem, aD, mU]
  refine Tri.step ze ?_
  simp +decide only [c1, h1, zk _ _ hfl, fnC, bne, zb, za, iN, hpin, go_sem, aD, mU]
  refine zf ze _ ?_
  simp +decide only [row1, hpin, go_sem, aD, mU]
theorem zhc (p : ProgramD) (fn : Int) (hf : p.fns.length <= 1048576) (hn : p.nodes.length <= 1048576) (hk : ∀ x ∈ p.nodes, x.kids.length <= 1048576) : zx Tryz.prog 81 [.ro (zb p), .ro (.sc (.int .i64 fn))] (fun rs st => rs = [(false, [.row false 3 (row1 cI (fnNs p fn))])]) := by
 refine zp (fn := Tryz.f81) (c := Tryz.f81.body.getD .skip) (res := [.tm 4]) (n := 39) ze (by kernel_rfl) (by rfl) (by kernel_rfl) (by rfl) (by rfl) (by simp [zu]) (fun uf ub C hpin hpin2 hfull => ?_)
 simp only [Tryz.f81, oD]
 refine Tri.step ze ?_
 simp +decide only [zb, za, hpin, go_sem, aD, mU]
 refine Tri.ent ?_ (Ent.frb hfull 2)
 refine Tri.step ze ?_
 simp +decide only [zb, za, hpin, go_sem, aD, mU]
 refine Tri.step ze ?_
 simp +decide only [zb, za, hpin, go_sem, aD, mU]
 refine zd (zjy p fn hf) hpin ?_
 simp +decide only [zb, za, hpin, go_sem, aD, mU]
 have hrl := zgz p fn
 have hmem := zdn p fn
 have hris : (fnNs p fn).Pairwise (· < ·) := Xu _ _
 generalize zbr p fn = R at hrl hmem |-
 generalize fnNs p fn = Z at hmem hris |-
 refine Tri.loop (ι := Nat × List Nat) (fun q => q.1 <= R.length /\ q.2.Nodup /\ ∀ m, m ∈ q.2 ↔ ∃ a, ∃ (ha : a < R.length), a < q.1 /\ (m : Int) ∈ zI p.nodes R[a]) (fun q => ⟨39, [(2, .ip (za true p) 0), (5, .ref 5 [] q.2.length), (12, .ref 3012 [] R.length), (13, vI R.length), (14, vI q.1)], [(3012, .row 3 (row1 cI R)), (5, .row 3 (row1 cI (ints q.2)))]⟩) (fun q => R.length - q.1) (0, []) ⟨by simp, by simp, fun m => ⟨fun h => by simp at h, fun ⟨a, ha, h0, _⟩ => by omega⟩⟩ ?_ ?_
 · refine Ent.weak ?_ ?_ ?_ ?_ <;> simp +decide [subT, subB, zj, zi, zm, St.get, look, vI, vB, vS, cI, cS, cB, zg, roI, za, ints, row1]
 · rintro ⟨i, l⟩ ⟨hi, hnd, hq⟩
   simp only at hi hnd hq |-
   have hll : l.length <= p.nodes.length := Xz hnd (fun x hx => by
    obtain ⟨a, ha, _, h⟩ := (hq x).1 hx
    exact YN h)
   refine zf ze _ ?_
   by_cases h' : i < R.length
   · have e : ((i : Int) < (R.length : Int)) = True := by simp [h']
     simp +decide only [e, h', zW _ _ h', za, iN, vB, vI, hpin, go_sem, aD, mU]
     refine zd (Yv p R[i] hn hk) hpin ?_
     simp +decide only [zb, za, hpin, go_sem, aD, mU]
     have hul := yB p.nodes R[i]
     have hum : ∀ b (hb : b < (zI p.nodes R[i]).length), 0 <= (zI p.nodes R[i])[b] := fun b hb => (yb (lM hb)).1
     have hulm : ∀ m : Nat, (m : Int) ∈ zI p.nodes R[i] -> m < p.nodes.length := fun m h => YN h
     have hnext : ∀ L : List Nat, (∀ m, m ∈ L ↔ (∃ a, ∃ (ha : a < R.length), a < i /\ (m : Int) ∈ zI p.nodes R[a]) \/ (m : Int) ∈ zI p.nodes R[i]) -> ∀ m, m ∈ L ↔ ∃ a, ∃ (ha : a < R.length), a < i + 1 /\ (m : Int) ∈ zI p.nodes R[a] := fun L hL m => by
      rw [hL m]
      constructor
      · rintro (⟨a, ha, h1, h2⟩ | h)
        · exact ⟨a, ha, by omega, h2⟩
        · exact ⟨i, h', by omega, h⟩
      · rintro ⟨a, ha, h1, h2⟩
        by_cases ea : a = i
        · subst ea; exact Or.inr h2
        · exact Or.inl ⟨a, ha, by omega, h2⟩
     generalize zI p.nodes R[i] = U at hul hum hulm hnext |-
     refine Tri.loop (ι := Nat × List Nat) (fun q => q.1 <= U.length /\ q.2.Nodup /\ ∀ m, m ∈ q.2 ↔ (∃ a, ∃ (ha : a < R.length), a < i /\ (m : Int) ∈ zI p.nodes R[a]) \/ (m : Int) ∈ U.take q.1) (fun q => ⟨39, [(2, .ip (za true p) 0), (5, .ref 5 [] q.2.length), (12, .ref 3012 [] R.length), (13, vI R.length), (14, vI i), (20, .ref 3020 [] U.length), (21, vI U.length), (22, vI q.1)], [(3020, .row 3 (row1 cI U)), (3012, .row 3 (row1 cI R)), (5, .row 3 (row1 cI (ints q.2)))]⟩) (fun q => U.length - q.1) (0, l) ⟨by simp, hnd, fun m => by rw [hq m]; simp⟩ ?_ ?_
     · refine Ent.weak ?_ ?_ ?_ ?_ <;> simp +decide [subT, subB, zj, zi, zm, St.get, look, vI, vB, vS, cI, cS, cB, zg, roI, za]
     · rintro ⟨j, L⟩ ⟨hj, hLn, hL⟩
       simp only at hj hLn hL |-
       have hLl : L.length <= p.nodes.length := Xz hLn (fun x hx => by
        rcases (hL x).1 hx with ⟨a, ha, _, h⟩ | h
        · exact YN h
        · exact hulm x (List.mem_of_mem_take h))
       refine zf ze _ ?_
       by_cases hj' : j < U.length
       · have e2 : ((j : Int) < (U.length : Int)) = True := by simp [hj']
         have q0 := hum j hj'
         have hcast : ((U[j].toNat : Nat) : Int) = U[j] := by omega
         have htk : ∀ m : Nat, (m : Int) ∈ U.take (j + 1) ↔ (m : Int) ∈ U.take j \/ m = U[j].toNat := fun m => by
          rw [List.take_succ_eq_append_getElem hj', List.mem_append, List.mem_singleton]
          constructor
          · rintro (h | h)
            · exact Or.inl h
            · right; omega
          · rintro (h | h)
            · exact Or.inl h
            · right; omega
         simp +decide only [e2, hj', zW _ _ hj', zA, za, iN, vB, vI, hpin, go_sem, aD, mU]
         refine zd (Zf (ints L) U[j] (by rw [zA]; omega)) hpin ?_
         simp +decide only [zA, zer, hpin, go_sem, aD, mU]
         rw [zgV q0]
         cases hc : L.contains U[j].toNat with
         | true =>
          have hmm : U[j].toNat ∈ L := by simpa using hc
          simp +decide only [hc, hpin, go_sem, aD, mU]
          refine ⟨(j + 1, L), ⟨hj', hLn, fun m => ?_⟩, by simp only; omega, Ent.weak ?_ ?_ ?_ ?_⟩
          · rw [hL m, htk m]
            constructor
            · rintro (h | h)
              · exact Or.inl h
              · exact Or.inr (Or.inl h)
            · rintro (h | h | h)
              · exact Or.inl h
              · exact Or.inr h
              · subst h; exact (hL _).1 hmm
          all_goals simp +decide [subT, subB, zj, zi, zm, St.get, look, vI, vB, vS, cI, cS, cB, zg, roI, za, w64s (n := U.length) hj' (by omega)]
         | false =>
          have hnm : U[j].toNat ∉ L := by simpa using hc
          have hb1 : L.length + 1 <= 140737488355328 := by omega
          have hb2 : (L.length + 1) * 8 <= 140737488355328 := by omega
          have hsn := zes L q0
          simp +decide only [hc, zA, hb1, hb2, hpin, go_sem, aD, mU]
          refine ⟨(j + 1, L ++ [U[j].toNat]), ⟨hj', ?_, fun m => ?_⟩, by simp only; omega, Ent.weak ?_ ?_ ?_ ?_⟩
          · rw [List.nodup_append]
            exact ⟨hLn, by simp, fun a ha b hb => by simp at hb; subst hb; exact fun e => hnm (e ▸ ha)⟩
          · rw [List.mem_append, List.mem_singleton, hL m, htk m, or_assoc]
          all_goals simp +decide [subT, subB, zj, zi, zm, St.get, look, vI, vB, vS, cI, cS, cB, zg, roI, za, w64s (n := U.length) hj' (by omega), <- hsn, row1, ints, Int.max_eq_left q0]
       · have hjl : j = U.length := by omega
         subst hjl
         have e2 : ((U.length : Int) < (U.length : Int)) = False := by simp
         rw [List.take_length] at hL
         simp +decide only [e2, vB, vI, hpin, go_sem, aD, mU]
         refine ⟨(i + 1, L), ⟨h', hLn, hnext L hL⟩, by simp only; omega, Ent.weak ?_ ?_ ?_ ?_⟩
         all_goals simp +decide [subT, subB, zj, zi, zm, St.get, look, vI, vB, vS, cI, cS, cB, zg, roI, za, w64s (n := R.length) h' (by omega)]
   · have hil : i = R.length := by omega
     subst hil
     have e : ((R.length : Int) < (R.length : Int)) = False := by simp
     have hs : xO (ints l) = Z := by
      refine zdC ?_ hris (fun z => ?_)
      · unfold ints
        exact List.Pairwise.map _ (fun a b hab h => hab (by omega)) hnd
      · rw [Xd, hmem z]
        constructor
        · rintro ⟨h0, h⟩
          obtain ⟨a, ha, _, h2⟩ := (hq _).1 h
          exact ⟨R[a], lM ha, by rw [show ((z.toNat : Nat) : Int) = z by omega] at h2; exact h2⟩
        · rintro ⟨k, hkk, h⟩
          obtain ⟨a, ha, rfl⟩ := List.getElem_of_mem hkk
          have h0 := (yb h).1
          exact ⟨h0, (hq _).2 ⟨a, ha, ha, by rw [show ((z.toNat : Nat) : Int) = z by omega]; exact h⟩⟩
     have hzl : Z.length = l.length := by rw [<- hs, yC, zA]
     simp +decide only [e, vB, vI, hpin, go_sem, aD, mU]
     refine Tri.step ze ?_
     simp +decide only [zA, hpin, go_sem, aD, mU]
     refine xX (YG (ints l) (by rw [zA]; omega)) hpin [(2000, 5)] ⟨rfl, rfl, rfl⟩ (fun uf => ⟨rfl, rfl⟩) (fun uf => ?_) ?_
     · simp +decide only [zA, go_sem, aD, mU]
     simp +decide only [zA, yC, hs, hzl, hpin, go_sem, aD, mU]
     refine zf ze _ ?_
     simp +decide only [zA, hzl, hpin, go_sem, aD, mU]
structure Zip (a b : List Int) (i k : Nat) (l : List Int) : Prop where
 ri : l.Pairwise (· < ·)
 mem : ∀ x, x ∈ l ↔ x ∈ a.take i \/ x ∈ b.take k
 la : ∀ x ∈ l, ∀ y ∈ a.drop i, x < y
 lb : ∀ x ∈ l, ∀ y ∈ b.drop k, x < y
 few : l.length <= i + k
theorem zdM {l : List Int} {x : Int} (h : l.Pairwise (· < ·)) (hx : ∀ y ∈ l, y < x) : (l ++ [x]).Pairwise (· < ·) := by
 rw [List.pairwise_append]
 exact ⟨h, by simp, fun a ha b hb => by simp at hb; subst hb; exact hx a ha⟩
theorem YR {a : List Int} (h : a.Pairwise (· < ·)) {i : Nat} (hi : i < a.length) : ∀ y ∈ a.drop (i + 1), a[i] < y := by
 have h2 : (a.drop i).Pairwise (· < ·) := h.sublist (List.drop_sublist _ _)
 rw [List.drop_eq_getElem_cons hi] at h2
 exact (List.pairwise_cons.1 h2).1
theorem ZS {a : List Int} {i : Nat} (hi : i < a.length) : ∀ y, y ∈ a.drop i ↔ y = a[i] \/ y ∈ a.drop (i + 1) := fun y => by
 rw [List.drop_eq_getElem_cons hi, List.mem_cons]
theorem zdc {a : List Int} {i : Nat} (hi : i < a.length) : ∀ y, y ∈ a.take (i + 1) ↔ y ∈ a.take i \/ y = a[i] := fun y => by
 rw [List.take_succ_eq_append_getElem hi, List.mem_append, List.mem_singleton]
theorem Zip.left {a b : List Int} (ha : a.Pairwise (· < ·)) (hb : b.Pairwise (· < ·)) {i k : Nat} {l : List Int} (h : Zip a b i k l) (hi : i < a.length) (hk : ∀ y ∈ b.drop k, a[i] < y) : Zip a b (i + 1) k (l ++ [a[i]]) where
 ri := zdM h.ri (fun y hy => h.la y hy _ ((ZS hi _).2 (Or.inl rfl)))
 mem := fun x => by rw [List.mem_append, List.mem_singleton, h.mem, zdc hi]; exact ⟨fun hh => hh.elim (fun hh => hh.elim (fun h1 => Or.inl (Or.inl h1)) Or.inr) (fun h1 => Or.inl (Or.inr h1)), fun hh => hh.elim (fun hh => hh.elim (fun h1 => Or.inl (Or.inl h1)) Or.inr) (fun h1 => Or.inl (Or.inr h1))⟩
 la := fun x hx y hy => by
  rcases List.mem_append.1 hx with hx | hx
  · exact h.la x hx y ((ZS hi y).2 (Or.inr hy))
  · simp at hx; subst hx; exact YR ha hi y hy
 lb := fun x hx y hy => by
  rcases List.mem_append.1 hx with hx | hx
  · exact h.lb x hx y hy
  · simp at hx; subst hx; exact hk y hy
 few := by have := h.few; simp; omega
theorem Zip.right {a b : List Int} (ha : a.Pairwise (· < ·)) (hb : b.Pairwise (· < ·)) {i k : Nat} {l : List Int} (h : Zip a b i k l) (hk : k < b.length) (hi : ∀ y ∈ a.drop i, b[k] < y) : Zip a b i (k + 1) (l ++ [b[k]]) where
 ri := zdM h.ri (fun y hy => h.lb y hy _ ((ZS hk _).2 (Or.inl rfl)))
 mem := fun x => by rw [List.mem_append, List.mem_singleton, h.mem, zdc hk, or_assoc]
 la := fun x hx y hy => by
  rcases List.mem_append.1 hx with hx | hx
  · exact h.la x hx y hy
  · simp at hx; subst hx; exact hi y hy
 lb := fun x hx y hy => by
  rcases List.mem_append.1 hx with hx | hx
  · exact h.lb x hx y ((ZS hk y).2 (Or.inr hy))
  · simp at hx; subst hx; exact YR hb hk y hy
 few := by have := h.few; simp; omega
theorem Zip.both {a b : List Int} (ha : a.Pairwise (· < ·)) (hb : b.Pairwise (· < ·)) {i k : Nat} {l : List Int} (h : Zip a b i k l) (hi : i < a.length) (hk : k < b.length) (he : a[i] = b[k]) : Zip a b (i + 1) (k + 1) (l ++ [b[k]]) where
 ri := zdM h.ri (fun y hy => h.lb y hy _ ((ZS hk _).2 (Or.inl rfl)))
 mem := fun x => by
  rw [List.mem_append, List.mem_singleton, h.mem, zdc hi, zdc hk, he]
  exact ⟨fun hh => hh.elim (fun hh => hh.elim (fun h1 => Or.inl (Or.inl h1)) (fun h1 => Or.inr (Or.inl h1))) (fun h1 => Or.inr (Or.inr h1)), fun hh => hh.elim (fun hh => hh.elim (fun h1 => Or.inl (Or.inl h1)) (fun h1 => Or.inr h1)) (fun hh => hh.elim (fun h1 => Or.inl (Or.inr h1)) (fun h1 => Or.inr h1))⟩
 la := fun x hx y hy => by
  rcases List.mem_append.1 hx with hx | hx
  · exact h.la x hx y ((ZS hi y).2 (Or.inr hy))
  · simp at hx; subst hx; rw [<- he]; exact YR ha hi y hy
 lb := fun x hx y hy => by
  rcases List.mem_append.1 hx with hx | hx
  · exact h.lb x hx y ((ZS hk y).2 (Or.inr hy))
  · simp at hx; subst hx; exact YR hb hk y hy
 few := by have := h.few; simp; omega
theorem znI (p : ProgramD) (fn : Int) (hf : p.fns.length <= 1048576) (hn : p.nodes.length <= 1048576) (hk : ∀ x ∈ p.nodes, x.kids.length <= 1048576) : zx Tryz.prog 85 [.ro (zb p), .ro (.sc (.int .i64 fn))] (fun rs st => rs = [(false, [.row false 3 (row1 cI (fnNs p fn))])]) := by
 refine zp (fn := Tryz.f85) (c := Tryz.f85.body.getD .skip) (res := [.tm 4]) (n := 102) ze (by kernel_rfl) (by rfl) (by kernel_rfl) (by rfl) (by rfl) (by simp [zu]) (fun uf ub C hpin hpin2 hfull => ?_)
 simp only [Tryz.f85, oD]
 have w1 : IntKind.i64.wrap ((p.fns.length : Int) - 1) = (p.fns.length : Int) - 1 := w64 (by omega) (by omega)
 have e0 : row1 cI ([] : List Int) = [] := rfl
 refine Tri.step ze ?_
 simp +decide only [zb, za, hpin, go_sem, aD, mU]
 refine Tri.ent ?_ (Ent.frb hfull 2)
 refine Tri.step ze ?_
 simp +decide only [zb, za, hpin, go_sem, aD, mU]
 refine Tri.step ze ?_
 simp +decide only [w1, zb, za, hpin, go_sem, aD, mU]
 refine zd (xp fn 0 (p.fns.length - 1)) hpin ?_
 cases h0 : inI fn 0 (p.fns.length - 1) with
 | false =>
  have hz : fnNs p fn = [] := by
   apply List.eq_nil_iff_forall_not_mem.2
   intro x hx
   obtain ⟨k, hkk, _⟩ := (zdn p fn x).1 hx
   simp [zbr, h0] at hkk
  simp +decide only [hz, e0, hpin, go_sem, aD, mU]
 | true =>
 have hr := zy h0
 obtain ⟨f, rfl⟩ : ∃ f : Nat, fn = f := ⟨fn.toNat, by omega⟩
 have hfl : f < p.fns.length := by omega
 have c1 : ((f : Int) < (p.fns.length : Int)) = True := eq_true (by omega)
 have hmem : ∀ x, x ∈ fnNs p f ↔ x ∈ zI p.nodes p.fns[f].body \/ x ∈ zI p.nodes p.fns[f].ret := fun x => by
  rw [zdn]
  unfold zbr
  rw [h0, if_pos rfl, yS hfl]
  cases h1 : p.fns[f].ret == -1 with
  | true =>
   have h2 : p.fns[f].ret = -1 := by simpa using h1
   have h3 : zI p.nodes (-1) = [] := by
    have : ye p.nodes (-1) = 0 := by unfold ye; rw [show inI (-1) 0 (p.nodes.length - 1) = false by simp [inI]]; rfl
    unfold zI; rw [this]; rfl
   rw [h2, h3]; simp
  | false => simp
 have hris : (fnNs p f).Pairwise (· < ·) := Xu _ _
 simp +decide only [zb, za, hpin, go_sem, aD, mU]
 refine Tri.step ze ?_
 simp +decide only [zb, za, hpin, go_sem, aD, mU]
 refine Tri.sched ze [(1, true), (3, true), (0, true), (2, false), (4, false), (5, false), (6, false), (7, false), (8, false)] zO (by kernel_rfl) (fun C2 hC2 => ?_)
 have hp2 := zP hC2 hpin
 simp +decide only [c1, zk _ _ hfl, fnC, zb, za, iN, hp2, go_sem, aD, mU]
 refine zd (Yu p p.fns[f].body hn hk) hp2 ?_
 simp +decide only [zb, za, hp2, go_sem, aD, mU]
 refine Tri.ent ?_ (Ent.frz hfull 6)
 refine Tri.step ze ?_
 simp +decide only [zb, za, hpin, go_sem, aD, mU]
 refine Tri.sched ze [(1, true), (3, true), (0, true), (2, false), (4, false), (5, false), (6, false), (7, false), (8, false)] zO (by kernel_rfl) (fun C2 hC2 => ?_)
 have hp2 := zP hC2 hpin
 simp +decide only [c1, zk _ _ hfl, fnC, zb, za, iN, hp2, go_sem, aD, mU]
 refine zd (Yu p p.fns[f].ret hn hk) hp2 ?_
 simp +decide only [zb, za, hp2, go_sem, aD, mU]
 refine Tri.ent ?_ (Ent.frz hfull 7)
 have hal := yB p.nodes p.fns[f].body
 have hbl := yB p.nodes p.fns[f].ret
 have har := Xj p.nodes p.fns[f].body
 have hbr := Xj p.nodes p.fns[f].ret
 generalize zI p.nodes p.fns[f].body = a at hal har hmem |-
 generalize zI p.nodes p.fns[f].ret = b at hbl hbr hmem |-
 generalize fnNs p f = Z at hmem hris |-
 refine Tri.step ze ?_
 simp +decide only [zb, za, hpin, go_sem, aD, mU]
 refine Tri.step ze ?_
 simp +decide only [zb, za, hpin, go_sem, aD, mU]
 refine Tri.step ze ?_
 simp +decide only [zb, za, hpin, go_sem, aD, mU]
 refine Tri.loop (ι := Nat × Nat × List Int) (fun q => q.1 <= a.length /\ q.2.1 <= b.length /\ Zip a b q.1 q.2.1 q.2.2) (fun q => ⟨102, [(5, .ref 5 [] q.2.2.length), (6, roI a), (7, roI b), (8, vI q.1), (9, vI q.2.1)], [(5, .row 3 (row1 cI q.2.2))]⟩) (fun q => (a.length - q.1) + (b.length - q.2.1)) (0, 0, []) ⟨by simp, by simp, by simp, by simp, by simp, by simp, by simp⟩ ?_ ?_
 · refine Ent.weak ?_ ?_ ?_ ?_ <;> simp +decide [subT, subB, zj, zi, zm, St.get, look, vI, vB, vS, cI, cS, cB, zg, roI, row1]
 · rintro ⟨i, k, l⟩ ⟨hi, hkk, hZ⟩
   simp only at hi hkk hZ |-
   have hfew := hZ.few
   have hb1 : l.length + 1 <= 140737488355328 := by omega
   have hb2 : (l.length + 1) * 8 <= 140737488355328 := by omega
   refine zf ze _ ?_
   by_cases h' : i < a.length
   · have e1 : ((i : Int) < (a.length : Int)) = True := by simp [h']
     by_cases h2 : k < b.length
     · have e2 : ((k : Int) < (b.length : Int)) = True := by simp [h2]
       have e3 : ((b.length : Int) <= (k : Int)) = False := by simp; omega
       simp +decide only [e1, e2, vB, vI, hpin, go_sem, aD, mU]
       refine Tri.sched ze [(0, true), (1, false), (2, false), (3, false), (4, false), (5, true), (6, false), (7, false), (8, false), (9, false), (10, true), (11, true), (12, true), (14, true), (15, true), (16, true), (13, true), (17, false), (18, false), (19, false), (20, false)] zO (by kernel_rfl) (fun C2 hC2 => ?_)
       have hp2 := zP hC2 hpin
       simp +decide only [e1, e2, e3, zw _ _ h', zw _ _ h2, iN, vB, vI, hp2, go_sem, aD, mU]
       by_cases hlt : a[i] < b[k]
       · have e4 : (a[i] < b[k]) = True := eq_true hlt
         have hsn := xx cI l a[i]
         simp only [cI] at hsn
         have hnx := hZ.left har hbr h' (fun y hy => by
          rcases (ZS h2 y).1 hy with rfl | hy
          · exact hlt
          · have := YR hbr h2 y hy; omega)
         simp +decide only [e1, e4, hb1, hb2, zw _ _ h', iN, hpin, go_sem, aD, mU]
         refine ⟨(i + 1, k, l ++ [a[i]]), ⟨h', hkk, hnx⟩, by simp only; omega, Ent.weak ?_ ?_ ?_ ?_⟩
         all_goals simp +decide [subT, subB, zj, zi, zm, St.get, look, vI, vB, vS, cI, cS, cB, zg, roI, hsn, w64s (n := a.length) h' (by omega)]
       · have e4 : (a[i] < b[k]) = False := eq_false hlt
         have hsn := xx cI l b[k]
         simp only [cI] at hsn
         simp +decide only [e1, e4, vB, vI, hpin, go_sem, aD, mU]
         refine Tri.sched ze [(0, true), (1, false), (2, false), (3, false), (4, false), (5, true), (6, true), (7, true), (9, true), (10, true), (11, true), (8, true), (12, false), (13, false), (14, false)] zO (by kernel_rfl) (fun C2 hC2 => ?_)
         have hp2 := zP hC2 hpin
         simp +decide only [e1, e2, e3, zw _ _ h', zw _ _ h2, iN, vB, vI, hp2, go_sem, aD, mU]
         cases heq : a[i] == b[k] with
         | true =>
          have he : a[i] = b[k] := by simpa using heq
          have hnx := hZ.both har hbr h' h2 he
          simp +decide only [e2, heq, hb1, hb2, zw _ _ h2, iN, hpin, go_sem, aD, mU]
          refine ⟨(i + 1, k + 1, l ++ [b[k]]), ⟨h', h2, hnx⟩, by simp only; omega, Ent.weak ?_ ?_ ?_ ?_⟩
          all_goals simp +decide [subT, subB, zj, zi, zm, St.get, look, vI, vB, vS, cI, cS, cB, zg, roI, hsn, w64s (n := a.length) h' (by omega), w64s (n := b.length) h2 (by omega)]
         | false =>
          have he : a[i] ≠ b[k] := by simpa using heq
          have hnx := hZ.right har hbr h2 (fun y hy => by
           rcases (ZS h' y).1 hy with rfl | hy
           · omega
           · have := YR har h' y hy; omega)
          simp +decide only [e2, heq, hb1, hb2, zw _ _ h2, iN, hpin, go_sem, aD, mU]
          refine ⟨(i, k + 1, l ++ [b[k]]), ⟨hi, h2, hnx⟩, by simp only; omega, Ent.weak ?_ ?_ ?_ ?_⟩
          all_goals simp +decide [subT, subB, zj, zi, zm, St.get, look, vI, vB, vS, cI, cS, cB, zg, roI, hsn, w64s (n := b.length) h2 (by omega)]
     · have hke : k = b.length := by omega
       have e3 : ((b.length : Int) <= (k : Int)) = True := by simp; omega
       have houtb : (row1 cI b).getD k [] = [] := by simp [List.getD, List.getElem?_eq_none (show (row1 cI b).length <= k by rw [zU]; omega)]
       have hsn := xx cI l a[i]
       simp only [cI] at hsn
       have hnx := hZ.left har hbr h' (fun y hy => by rw [hke, List.drop_length] at hy; simp at hy)
       simp +decide only [e1, vB, vI, hpin, go_sem, aD, mU]
       refine Tri.sched ze [(0, true), (1, false), (2, false), (3, false), (4, false), (5, true), (6, false), (7, false), (8, false), (9, false), (10, true), (11, true), (12, true), (14, true), (15, true), (16, true), (13, true), (17, false), (18, false), (19, false), (20, false)] zO (by kernel_rfl) (fun C2 hC2 => ?_)
       have hp2 := zP hC2 hpin
       simp +decide only [e1, e3, hb1, hb2, houtb, zw _ _ h', iN, vB, vI, hp2, hpin, go_sem, aD, mU]
       refine ⟨(i + 1, k, l ++ [a[i]]), ⟨h', hkk, hnx⟩, by simp only; omega, Ent.weak ?_ ?_ ?_ ?_⟩
       all_goals simp +decide [subT, subB, zj, zi, zm, St.get, look, vI, vB, vS, cI, cS, cB, zg, roI, hsn, w64s (n := a.length) h' (by omega)]
   · have hie : i = a.length := by omega
     have e1 : ((i : Int) < (a.length : Int)) = False := by simp; omega
     have hout : (row1 cI a).getD i [] = [] := by simp [List.getD, List.getElem?_eq_none (show (row1 cI a).length <= i by rw [zU]; omega)]
     by_cases h2 : k < b.length
     · have e2 : ((k : Int) < (b.length : Int)) = True := by simp [h2]
       have e3 : ((b.length : Int) <= (k : Int)) = False := by simp; omega
       have hsn := xx cI l b[k]
       simp only [cI] at hsn
       have hnx := hZ.right har hbr h2 (fun y hy => by rw [hie, List.drop_length] at hy; simp at hy)
       simp +decide only [e1, e2, vB, vI, hpin, go_sem, aD, mU]
       refine Tri.sched ze [(0, true), (1, false), (2, false), (3, false), (4, false), (5, true), (6, false), (7, false), (8, false), (9, false), (10, true), (11, true), (12, true), (14, true), (15, true), (16, true), (13, true), (17, false), (18, false), (19, false), (20, false)] zO (by kernel_rfl) (fun C2 hC2 => ?_)
       have hp2 := zP hC2 hpin
       simp +decide only [e1, e2, e3, hout, zw _ _ h2, iN, vB, vI, hp2, go_sem, aD, mU]
       refine Tri.sched ze [(0, true), (1, false), (2, false), (3, false), (4, false), (5, true), (6, true), (7, true), (9, true), (10, true), (11, true), (8, true), (12, false), (13, false), (14, false)] zO (by kernel_rfl) (fun C3 hC3 => ?_)
       have hp3 := zP hC3 hpin
       simp +decide only [e1, e2, e3, hout, zw _ _ h2, iN, hb1, hb2, vB, vI, hp3, hpin, go_sem, aD, mU]
       refine ⟨(i, k + 1, l ++ [b[k]]), ⟨hi, h2, hnx⟩, by simp only; omega, Ent.weak ?_ ?_ ?_ ?_⟩
       all_goals simp +decide [subT, subB, zj, zi, zm, St.get, look, vI, vB, vS, cI, cS, cB, zg, roI, hsn, w64s (n := b.length) h2 (by omega)]
     · have hke : k = b.length := by omega
       have e2 : ((k : Int) < (b.length : Int)) = False := by simp; omega
       have hz : Z = l := zbs hris hZ.ri (fun x => by
        rw [hmem x, hZ.mem x, hie, hke, List.take_length, List.take_length])
       simp +decide only [e1, e2, hz, vB, vI, hpin, go_sem, aD, mU]
       refine zf ze _ ?_
       simp +decide only [hpin, go_sem, aD, mU]
theorem zeG (p : ProgramD) (fn : Int) {i : Nat} (h : i < (fnNs p fn).length) : 0 <= (fnNs p fn)[i] /\ (fnNs p fn)[i].toNat < p.nodes.length := by
 obtain ⟨k, _, hk⟩ := (zdn p fn _).1 (lM h)
 have := yb hk
 exact ⟨this.1, this.2.1⟩
theorem zce : ∀ l : List NodeD, sumN yF l <= 3 * l.length + sumN zC l
 | [] => by simp [sumN]
 | x :: r => by
  have := zce r
  simp only [sumN, List.map_cons, List.sum_cons, List.length_cons] at this |-
  have e : yF x <= 3 + zC x := by unfold yF zC; omega
  omega
theorem zhz {α : Type} {f : α -> Nat} (h : ∀ x, f x = 2) : ∀ l : List α, sumN f l = 2 * l.length
 | [] => by simp [sumN]
 | x :: r => by
  have := zhz h r
  simp only [sumN, List.map_cons, List.sum_cons, List.length_cons] at this |-
  rw [h x]; omega
theorem zhb : ∀ l : List FnD, sumN fnN l <= 4 * l.length + 2 * sumN ya l
 | [] => by simp [sumN]
 | x :: r => by
  have := zhb r
  simp only [sumN, List.map_cons, List.sum_cons, List.length_cons] at this |-
  have e : fnN x <= 4 + 2 * ya x := by
   have h := zhz (f := zV) (fun _ => rfl) x.params
   unfold fnN ya; omega
  omega
def ZP (x : ParamD) : Bool := YJ x.name && inI x.ty 1 4
def zcm (p : ProgramD) (f : FnD) : Bool := inI f.body 0 (p.nodes.length - 1) && (nAt p.nodes f.body).kind == 20
def ziG (p : ProgramD) (f : FnD) : Bool := if f.res == 0 then f.ret == -1 else (inI f.ret 0 (p.nodes.length - 1) && xV (nAt p.nodes f.ret).kind)
def XV (p : ProgramD) (f : FnD) : Bool := YJ f.name && (decide ((f.params.length : Int) <= 3) && (inI f.res 0 2 && (f.params.all ZP && (zcm p f && ziG p f))))
theorem zmK (n : Int) : (bne n 0 && (bne n 1 && bne n 2)) = !inI n 0 2 := by
 simp only [inI, bne]
 by_cases h0 : n = 0
 · subst h0; rfl
 · by_cases h1 : n = 1
   · subst h1; rfl
   · by_cases h2 : n = 2
     · subst h2; rfl
     · have e0 : (n == 0) = false := by simpa using h0
       have e1 : (n == 1) = false := by simpa using h1
       have e2 : (n == 2) = false := by simpa using h2
       rw [e0, e1, e2]
       simp
       omega
theorem Xi {α : Type} {f : α -> Bool} {l : List α} {i : Nat} (h : i < l.length) (hf : f l[i] = false) : l.all f = false := by
 rw [List.all_eq_false]; exact ⟨l[i], lM h, by simp [hf]⟩
theorem zlc {α : Type} {f : α -> Bool} {l : List α} {i : Nat} (h : i < l.length) (hq : (l.take i).all f = true) (hf : f l[i] = true) : (l.take (i + 1)).all f = true := by
 rw [List.take_succ_eq_append_getElem h, List.all_append, hq]; simp [hf]
theorem Xs (nodes : List NodeD) (j : Nat) : (∃ x, (rows (zg true) nodes).getD j [] = zg true x) \/ (rows (zg true) nodes).getD j [] = [] := by
 by_cases h : j < nodes.length
 · exact Or.inl ⟨nodes[j], zk _ _ h⟩
 · right
   simp [List.getD, List.getElem?_eq_none (show (rows (zg true) nodes).length <= j by rw [yt]; omega)]
theorem zjX (p : ProgramD) (f : FnD) (hn : p.nodes.length <= 1048576) (hpl : f.params.length <= 1048576) : zx Tryz.prog 204 [.ro (zb p), .ro (fnW f)] (fun rs st => rs = [(false, [cB (XV p f)])]) := by
 refine zp (fn := Tryz.f204) (c := Tryz.f204.body.getD .skip) (res := [.tm 4]) (n := 91) ze (by kernel_rfl) (by rfl) (by kernel_rfl) (by rfl) (by rfl) (by simp [zu]) (fun uf ub C hpin hpin2 hfull => ?_)
 simp only [Tryz.f204, oD]
 have w1 : IntKind.i64.wrap ((p.nodes.length : Int) - 1) = (p.nodes.length : Int) - 1 := w64 (by omega) (by omega)
 refine Tri.step ze ?_
 simp +decide only [zb, za, fnW, zb, za, fnW, fnC, hpin, go_sem, aD, mU]
 refine Tri.ent ?_ (Ent.frb hfull 2)
 refine Tri.ent ?_ (Ent.frb hfull 3)
 unfold XV
 cases h0 : YJ f.name with
 | false =>
  refine Tri.step ze ?_
  simp +decide only [zb, za, fnW, fnC, hpin, go_sem, aD, mU]
  refine zd (xD f.name) hpin ?_
  simp +decide only [h0, zb, za, fnW, fnC, hpin, go_sem, aD, mU]
 | true =>
 by_cases h1 : (f.params.length : Int) <= 3
 case neg =>
  have c1 : ((3 : Int) < (f.params.length : Int)) = True := eq_true (by omega)
  have c2 : decide ((f.params.length : Int) <= 3) = false := decide_eq_false h1
  refine Tri.step ze ?_
  simp +decide only [zb, za, fnW, fnC, hpin, go_sem, aD, mU]
  refine zd (xD f.name) hpin ?_
  simp +decide only [h0, c1, c2, gt_iff_lt, zb, za, fnW, fnC, hpin, go_sem, aD, mU]
 have c1 : ((3 : Int) < (f.params.length : Int)) = False := eq_false (by omega)
 have c2 : decide ((f.params.length : Int) <= 3) = true := decide_eq_true h1
 have h3 := zmK f.res
 cases h2 : inI f.res 0 2 with
 | false =>
  rw [h2] at h3
  have z0 : (f.res == 0) = false := by cases h : f.res == 0 with | false => rfl | true => simp [bne, h] at h3
  have z1 : (f.res == 1) = false := by cases h : f.res == 1 with | false => rfl | true => simp [bne, h] at h3
  have z2 : (f.res == 2) = false := by cases h : f.res == 2 with | false => rfl | true => simp [bne, h] at h3
  refine Tri.step ze ?_
  simp +decide only [zb, za, fnW, fnC, hpin, go_sem, aD, mU]
  refine zd (xD f.name) hpin ?_
  simp +decide only [h0, c1, c2, z0, z1, z2, bne, gt_iff_lt, zb, za, fnW, fnC, hpin, go_sem, aD, mU]
 | true =>
 rw [h2] at h3
 refine Tri.stop ze ⟨91, [(2, .ip (za true p) 0), (3, .ip (fnC true f) 0), (4, vB false)], []⟩ ?_ ?_
 · simp +decide only [zb, za, fnW, fnC, hpin, go_sem, aD, mU]
   refine zd (xD f.name) hpin ?_
   cases z0 : f.res == 0 with
   | true => simp +decide only [h0, c1, c2, z0, bne, gt_iff_lt, zb, za, fnW, fnC, hpin, go_sem, aD, mU]; refine Ent.weak ?_ ?_ ?_ ?_ <;> simp +decide [subT, subB, zj, zi, zm, St.get, look, vI, vB, vS, cI, cS, cB, zg, roI, za, fnC]
   | false =>
   cases z1 : f.res == 1 with
   | true => simp +decide only [h0, c1, c2, z0, z1, bne, gt_iff_lt, zb, za, fnW, fnC, hpin, go_sem, aD, mU]; refine Ent.weak ?_ ?_ ?_ ?_ <;> simp +decide [subT, subB, zj, zi, zm, St.get, look, vI, vB, vS, cI, cS, cB, zg, roI, za, fnC]
   | false =>
   have z2 : (f.res == 2) = true := by cases h : f.res == 2 with | true => rfl | false => simp [bne, z0, z1, h] at h3
   simp +decide only [h0, c1, c2, z0, z1, z2, bne, gt_iff_lt, zb, za, fnW, fnC, hpin, go_sem, aD, mU]; refine Ent.weak ?_ ?_ ?_ ?_ <;> simp +decide [subT, subB, zj, zi, zm, St.get, look, vI, vB, vS, cI, cS, cB, zg, roI, za, fnC]
 simp +decide only [c2, Bool.true_and]
 refine Tri.step ze ?_
 simp +decide only [za, fnC, vB, vI, zb, za, fnW, fnC, hpin, go_sem, aD, mU]
 refine Tri.loop (ι := Nat) (fun i => i <= f.params.length /\ (f.params.take i).all ZP = true) (fun i => ⟨91, [(2, .ip (za true p) 0), (3, .ip (fnC true f) 0), (4, vB false), (33, .imm 107 (rows (zn true) f.params)), (34, vI f.params.length), (35, vI i)], []⟩) (fun i => f.params.length - i) 0 ⟨by simp, by simp⟩ ?_ ?_
 · refine Ent.weak ?_ ?_ ?_ ?_ <;> simp +decide [subT, subB, zj, zi, zm, St.get, look, vI, vB, vS, cI, cS, cB, zg, roI, za, fnC]
 · rintro i ⟨hi, hq⟩
   refine zf ze _ ?_
   by_cases h' : i < f.params.length
   · have e : ((i : Int) < (f.params.length : Int)) = True := by simp [h']
     simp +decide only [e, h', zk _ _ h', zn, iN, vB, vI, zb, za, fnW, fnC, hpin, go_sem, aD, mU]
     refine zd (xD f.params[i].name) hpin ?_
     cases g0 : YJ f.params[i].name with
     | false =>
      have hf := Xi (f := ZP) h' (by simp only [ZP, g0, Bool.false_and])
      simp +decide only [hf, zb, za, fnW, fnC, hpin, go_sem, aD, mU]
     | true =>
     simp +decide only [zb, za, fnW, fnC, hpin, go_sem, aD, mU]
     refine zd (in' f.params[i].ty 1 4) hpin ?_
     cases g1 : inI f.params[i].ty 1 4 with
     | false =>
      have hf := Xi (f := ZP) h' (by simp only [ZP, g1, Bool.and_false])
      simp +decide only [hf, zb, za, fnW, fnC, hpin, go_sem, aD, mU]
     | true =>
     have hnx := zlc (f := ZP) h' hq (by simp only [ZP, g0, g1]; rfl)
     simp +decide only [zb, za, fnW, fnC, hpin, go_sem, aD, mU]
     refine ⟨i + 1, ⟨h', hnx⟩, by omega, Ent.weak ?_ ?_ ?_ ?_⟩
     all_goals simp +decide [subT, subB, zj, zi, zm, St.get, look, vI, vB, vS, cI, cS, cB, zg, roI, za, fnC, w64s (n := f.params.length) h' (by omega)]
   · have hil : i = f.params.length := by omega
     subst hil
     have e : ((f.params.length : Int) < (f.params.length : Int)) = False := by simp
     rw [List.take_length] at hq
     rw [hq, Bool.true_and]
     simp +decide only [e, vB, vI, zb, za, fnW, fnC, hpin, go_sem, aD, mU]
     refine Tri.step ze ?_
     simp +decide only [w1, za, fnC, zb, za, fnW, fnC, hpin, go_sem, aD, mU]
     refine zd (in' f.body 0 (p.nodes.length - 1)) hpin ?_
     unfold zcm
     cases g0 : inI f.body 0 (p.nodes.length - 1) with
     | false =>
      rcases Xs p.nodes f.body.toNat with ⟨y, hy⟩ | hy
      · simp +decide only [hy, zg, zb, za, fnW, fnC, hpin, go_sem, aD, mU]
      · simp +decide only [hy, zb, za, fnW, fnC, hpin, go_sem, aD, mU]
     | true =>
     have hr := zy g0
     have z0 : (0 <= f.body) = True := eq_true hr.1
     have hbl : f.body.toNat < p.nodes.length := by omega
     have z1 : (f.body < (p.nodes.length : Int)) = True := eq_true (by omega)
     rw [xE hbl]
     simp +decide only [z0, z1, zk _ _ hbl, zg, bne, za, fnC, zb, za, fnW, fnC, hpin, go_sem, aD, mU]
     cases g1 : p.nodes[f.body.toNat].kind == 20 with
     | false => simp +decide only [g1, zb, za, fnW, fnC, hpin, go_sem, aD, mU]
     | true =>
     simp +decide only [g1, zb, za, fnW, fnC, hpin, go_sem, aD, mU]
     refine Tri.step ze ?_
     unfold ziG
     cases g2 : f.res == 0 with
     | true =>
      simp +decide only [g2, za, fnC, zb, za, fnW, fnC, hpin, go_sem, aD, mU]
     | false =>
      rw [if_neg (by decide)]
      simp +decide only [g2, za, fnC, zb, za, fnW, fnC, hpin, go_sem, aD, mU]
      refine zf ze _ ?_
      simp +decide only [w1, za, fnC, zb, za, fnW, fnC, hpin, go_sem, aD, mU]
      refine zd (in' f.ret 0 (p.nodes.length - 1)) hpin ?_
      cases g3 : inI f.ret 0 (p.nodes.length - 1) with
      | false =>
       rcases Xs p.nodes f.ret.toNat with ⟨y, hy⟩ | hy
       · simp +decide only [hy, zg, zb, za, fnW, fnC, hpin, go_sem, aD, mU]
       · simp +decide only [hy, zb, za, fnW, fnC, hpin, go_sem, aD, mU]
      | true =>
      have hr2 := zy g3
      have y0 : (0 <= f.ret) = True := eq_true hr2.1
      have hrl : f.ret.toNat < p.nodes.length := by omega
      have y1 : (f.ret < (p.nodes.length : Int)) = True := eq_true (by omega)
      rw [xE hrl]
      simp +decide only [y0, y1, zk _ _ hrl, zg, za, fnC, zb, za, fnW, fnC, hpin, go_sem, aD, mU]
      refine zd (Yz p.nodes[f.ret.toNat].kind) hpin ?_
      simp +decide only [zb, za, fnW, fnC, hpin, go_sem, aD, mU]
theorem zjW (p : ProgramD) (i : Nat) (hil : i < p.fns.length) (hf : p.fns.length <= 1048576) (hn : p.nodes.length <= 1048576) (hpl : ∀ f ∈ p.fns, f.params.length <= 1048576) : zx Tryz.prog 195 [.ro (zb p), .ro (.sc (.int .i64 i))] (fun rs st => rs = [(false, [cB (XV p p.fns[i] && xd p.fns p.fns[i].name == (i : Int))])]) := by
 have hplx := hpl p.fns[i] (lM hil)
 have hns := XL p p.fns[i].name hf
 generalize hfe : p.fns[i] = f at hplx hns
 have ci : ((i : Int) < (p.fns.length : Int)) = True := eq_true (by omega)
 refine zp (fn := Tryz.f195) (c := Tryz.f195.body.getD .skip) (res := [.tm 4]) (n := 102) ze (by kernel_rfl) (by rfl) (by kernel_rfl) (by rfl) (by rfl) (by simp [zu]) (fun uf ub C hpin hpin2 hfull => ?_)
 simp only [Tryz.f195, oD]
 have w1 : IntKind.i64.wrap ((p.nodes.length : Int) - 1) = (p.nodes.length : Int) - 1 := w64 (by omega) (by omega)
 refine Tri.step ze ?_
 simp +decide only [zb, za, fnW, zb, za, fnW, fnC, hpin, go_sem, aD, mU]
 refine Tri.ent ?_ (Ent.frb hfull 2)
 refine Tri.step ze ?_
 simp +decide only [ci, zk _ _ hil, hfe, fnC, zb, za, iN, zb, za, fnW, fnC, hpin, go_sem, aD, mU]
 refine Tri.ent ?_ (Ent.frb hfull 5)
 refine Tri.step ze ?_
 simp +decide only [fnC, za, zb, za, fnW, fnC, hpin, go_sem, aD, mU]
 refine zd (Yh f.name) hpin ?_
 unfold XV
 cases h0 : YJ f.name with
 | false => simp +decide only [zb, za, fnW, fnC, hpin, go_sem, aD, mU]
 | true =>
 simp +decide only [fnC, za, zb, zb, za, fnW, fnC, hpin, go_sem, aD, mU]
 refine zd hns hpin ?_
 cases ha : xd p.fns f.name == (i : Int) with
 | false => simp +decide only [ha, bne, zb, za, fnW, fnC, hpin, go_sem, aD, mU]
 | true =>
 by_cases h1 : (f.params.length : Int) <= 3
 case neg =>
  have c1 : ((3 : Int) < (f.params.length : Int)) = True := eq_true (by omega)
  have c2 : decide ((f.params.length : Int) <= 3) = false := decide_eq_false h1
  simp +decide only [ha, bne, c1, c2, gt_iff_lt, zb, za, fnW, fnC, hpin, go_sem, aD, mU]
 have c1 : ((3 : Int) < (f.params.length : Int)) = False := eq_false (by omega)
 have c2 : decide ((f.params.length : Int) <= 3) = true := decide_eq_true h1
 simp +decide only [ha, bne, c1, c2, gt_iff_lt, zb, za, fnW, fnC, hpin, go_sem, aD, mU]
 refine zd (xp f.res 0 2) hpin ?_
 cases h2 : inI f.res 0 2 with
 | false => simp +decide only [zb, za, fnW, fnC, hpin, go_sem, aD, mU]
 | true =>
 simp +decide only [zb, za, fnW, fnC, hpin, go_sem, aD, mU]
 refine Tri.step ze ?_
 simp +decide only [za, fnC, zb, za, fnW, fnC, hpin, go_sem, aD, mU]
 refine Tri.loop (ι := Nat) (fun i => i <= f.params.length /\ (f.params.take i).all ZP = true) (fun i => ⟨102, [(2, .ip (za true p) 0), (4, vB false), (5, .ip (fnC true f) 0), (6, vI i)], []⟩) (fun i => f.params.length - i) 0 ⟨by simp, by simp⟩ ?_ ?_
 · refine Ent.weak ?_ ?_ ?_ ?_ <;> simp +decide [subT, subB, zj, zi, zm, St.get, look, vI, vB, vS, cI, cS, cB, zg, roI, za, fnC]
 · rintro i ⟨hi, hq⟩
   refine zf ze _ ?_
   by_cases h' : i < f.params.length
   · have e : ((i : Int) < (f.params.length : Int)) = True := by simp [h']
     simp +decide only [e, h', zk _ _ h', zn, fnC, za, iN, vB, vI, zb, za, fnW, fnC, hpin, go_sem, aD, mU]
     refine zd (Yh f.params[i].name) hpin ?_
     cases g0 : YJ f.params[i].name with
     | false =>
      have hf := Xi (f := ZP) h' (by simp only [ZP, g0, Bool.false_and])
      simp +decide only [hf, zb, za, fnW, fnC, hpin, go_sem, aD, mU]
     | true =>
     simp +decide only [e, h', zk _ _ h', zn, fnC, za, iN, vB, vI, zb, za, fnW, fnC, hpin, go_sem, aD, mU]
     refine zd (xp f.params[i].ty 1 4) hpin ?_
     cases g1 : inI f.params[i].ty 1 4 with
     | false =>
      have hf := Xi (f := ZP) h' (by simp only [ZP, g1, Bool.and_false])
      simp +decide only [hf, zb, za, fnW, fnC, hpin, go_sem, aD, mU]
     | true =>
     have hnx := zlc (f := ZP) h' hq (by simp only [ZP, g0, g1]; rfl)
     simp +decide only [zb, za, fnW, fnC, hpin, go_sem, aD, mU]
     refine ⟨i + 1, ⟨h', hnx⟩, by omega, Ent.weak ?_ ?_ ?_ ?_⟩
     all_goals simp +decide [subT, subB, zj, zi, zm, St.get, look, vI, vB, vS, cI, cS, cB, zg, roI, za, fnC, w64s (n := f.params.length) h' (by omega)]
   · have hil : i = f.params.length := by omega
     subst hil
     have e : ((f.params.length : Int) < (f.params.length : Int)) = False := by simp
     rw [List.take_length] at hq
     rw [hq, Bool.true_and]
     simp +decide only [e, fnC, za, vB, vI, zb, za, fnW, fnC, hpin, go_sem, aD, mU]
     refine Tri.step ze ?_
     simp +decide only [w1, za, fnC, zb, za, fnW, fnC, hpin, go_sem, aD, mU]
     refine zd (xp f.body 0 (p.nodes.length - 1)) hpin ?_
     unfold zcm
     cases g0 : inI f.body 0 (p.nodes.length - 1) with
     | false =>
      rcases Xs p.nodes f.body.toNat with ⟨y, hy⟩ | hy
      · simp +decide only [hy, zg, zb, za, fnW, fnC, hpin, go_sem, aD, mU]
      · simp +decide only [hy, zb, za, fnW, fnC, hpin, go_sem, aD, mU]
     | true =>
     have hr := zy g0
     have z0 : (0 <= f.body) = True := eq_true hr.1
     have hbl : f.body.toNat < p.nodes.length := by omega
     have z1 : (f.body < (p.nodes.length : Int)) = True := eq_true (by omega)
     rw [xE hbl]
     simp +decide only [z0, z1, zk _ _ hbl, zg, bne, za, fnC, zb, za, fnW, fnC, hpin, go_sem, aD, mU]
     cases g1 : p.nodes[f.body.toNat].kind == 20 with
     | false => simp +decide only [g1, zb, za, fnW, fnC, hpin, go_sem, aD, mU]
     | true =>
     simp +decide only [g1, zb, za, fnW, fnC, hpin, go_sem, aD, mU]
     refine Tri.step ze ?_
     unfold ziG
     cases g2 : f.res == 0 with
     | true =>
      simp +decide only [g2, c2, za, fnC, zb, za, fnW, fnC, hpin, go_sem, aD, mU]
     | false =>
      rw [if_neg (by decide)]
      simp +decide only [g2, za, fnC, zb, za, fnW, fnC, hpin, go_sem, aD, mU]
      refine zf ze _ ?_
      simp +decide only [w1, za, fnC, zb, za, fnW, fnC, hpin, go_sem, aD, mU]
      refine zd (xp f.ret 0 (p.nodes.length - 1)) hpin ?_
      cases g3 : inI f.ret 0 (p.nodes.length - 1) with
      | false =>
       rcases Xs p.nodes f.ret.toNat with ⟨y, hy⟩ | hy
       · simp +decide only [hy, zg, zb, za, fnW, fnC, hpin, go_sem, aD, mU]
       · simp +decide only [hy, zb, za, fnW, fnC, hpin, go_sem, aD, mU]
      | true =>
      have hr2 := zy g3
      have y0 : (0 <= f.ret) = True := eq_true hr2.1
      have hrl : f.ret.toNat < p.nodes.length := by omega
      have y1 : (f.ret < (p.nodes.length : Int)) = True := eq_true (by omega)
      rw [xE hrl]
      simp +decide only [y0, y1, zk _ _ hrl, zg, za, fnC, zb, za, fnW, fnC, hpin, go_sem, aD, mU]
      refine zd (Yy p.nodes[f.ret.toNat].kind) hpin ?_
      simp +decide only [c2, zb, za, fnW, fnC, hpin, go_sem, aD, mU]
def tabI (n : Nat) (f : Nat -> Int) : List Int := (List.range n).map f
theorem zl (n : Nat) (f : Nat -> Int) : (tabI n f).length = n := by simp [tabI]
theorem xv {n : Nat} {f : Nat -> Int} {i : Nat} (h : i < n) : (row1 cI (tabI n f))[i]? = some [cI (f i)] := by simp [row1, tabI, h]
theorem zkw {n : Nat} {f : Nat -> Int} {i : Nat} (h : i < n) : (row1 cI (tabI n f)).getD i [] = [cI (f i)] := by simp [List.getD, xv h]
theorem ZU {n : Nat} {f g : Nat -> Int} (h : ∀ m, m < n -> f m = g m) : tabI n f = tabI n g := by
 unfold tabI
 apply List.map_congr_left
 intro m hm
 exact h m (List.mem_range.1 hm)
theorem zbn {n : Nat} {f : Nat -> Int} {i : Nat} (h : i < n) (v : Int) : (row1 cI (tabI n f)).set i [cI v] = row1 cI (tabI n (fun m => if m = i then v else f m)) := by
 apply List.ext_getElem?
 intro j
 by_cases hj : j < n
 · rw [xv hj]
   by_cases e : i = j
   · subst e
     rw [List.getElem?_set_self (by rw [zU, zl]; exact h)]
     simp
   · rw [List.getElem?_set_ne e, xv hj, if_neg (fun he => e he.symm)]
 · rw [List.getElem?_eq_none (by rw [List.length_set, zU, zl]; omega), List.getElem?_eq_none (by rw [zU, zl]; omega)]
theorem zhC (n : Nat) : List.replicate n [cI 0] = row1 cI (tabI n (fun _ => 0)) := by
 apply List.ext_getElem?
 intro j
 by_cases hj : j < n
 · rw [xv hj]; simp [hj]
 · rw [List.getElem?_eq_none (by simp; omega), List.getElem?_eq_none (by rw [zU, zl]; omega)]
def cntK (nodes : List NodeD) (i m : Nat) : Nat := sumN (fun x => x.kids.count (m : Int)) (nodes.take i)
def cntF (nodes : List NodeD) (x : NodeD) (i j : Nat) : Nat -> Int := fun m => (cntK nodes i m : Int) + ((x.kids.take j).count (m : Int) : Int)
theorem ziQ {nodes : List NodeD} {i : Nat} (h : i < nodes.length) (m : Nat) : cntK nodes (i + 1) m = cntK nodes i m + nodes[i].kids.count (m : Int) := by
 unfold cntK sumN
 rw [List.take_succ_eq_append_getElem h, List.map_append, List.sum_append]
 simp only [List.map_cons, List.map_nil, List.sum_cons, List.sum_nil, Nat.add_zero]
theorem zho {nodes : List NodeD} (hd : ∀ x ∈ nodes, x.kids.Nodup) (m : Nat) : ∀ i, i <= nodes.length -> cntK nodes i m <= i
 | 0, _ => by simp [cntK, sumN]
 | i + 1, h => by
  rw [ziQ h]
  have h1 := zho hd m i (by omega)
  have h2 := List.nodup_iff_count.1 (hd nodes[i] (lM h)) (m : Int)
  omega
theorem ziR (nodes : List NodeD) (x : NodeD) (i m : Nat) : cntF nodes x i 0 m = cntK nodes i m := by simp [cntF]
theorem ziT {nodes : List NodeD} {i : Nat} (h : i < nodes.length) (m : Nat) : cntF nodes nodes[i] i nodes[i].kids.length m = cntK nodes (i + 1) m := by
 unfold cntF; rw [List.take_length, ziQ h]; simp
theorem ziS {nodes : List NodeD} {x : NodeD} {i j : Nat} (h : j < x.kids.length) (h0 : 0 <= x.kids[j]) : (fun m => if m = x.kids[j].toNat then cntF nodes x i j x.kids[j].toNat + 1 else cntF nodes x i j m) = cntF nodes x i (j + 1) := by
 funext m
 unfold cntF
 rw [List.take_succ_eq_append_getElem h, List.count_append]
 by_cases e : m = x.kids[j].toNat
 · subst e
   have e2 : ((x.kids[j].toNat : Nat) : Int) = x.kids[j] := by omega
   rw [if_pos rfl, e2]
   simp; omega
 · rw [if_neg e]
   have e2 : (x.kids[j] == (m : Int)) = false := by
    apply Bool.eq_false_iff.2; intro hh; have := eq_of_beq hh; omega
   simp [List.count_cons, e2]
theorem zfZ {nodes : List NodeD} {x : NodeD} (hd : ∀ x ∈ nodes, x.kids.Nodup) (hx : x.kids.Nodup) {i : Nat} (hi : i <= nodes.length) (j m : Nat) : 0 <= cntF nodes x i j m /\ cntF nodes x i j m <= (i : Int) + 1 := by
 have h1 := zho hd m i hi
 have h2 := List.nodup_iff_count.1 (hx.sublist (List.take_sublist j x.kids)) (m : Int)
 unfold cntF
 omega
def rts (f : FnD) : List Int := [f.body, f.ret]
def rtsP (f : FnD) (b : Nat) : List Int := ((rts f).take b).filter (fun k => decide (0 <= k))
def allR (fns : List FnD) : List Int := fns.flatMap (fun f => rtsP f 2)
theorem zjb {fns : List FnD} {i : Nat} (h : i < fns.length) : allR (fns.take (i + 1)) = allR (fns.take i) ++ rtsP fns[i] 2 := by
 unfold allR
 rw [List.take_succ_eq_append_getElem h, List.flatMap_append]
 simp
theorem zld {fns : List FnD} {i : Nat} (h : i < fns.length) (b : Nat) : (allR (fns.take i) ++ rtsP fns[i] b).Sublist (allR fns) := by
 have e : allR fns = allR (fns.take i) ++ (rtsP fns[i] 2 ++ allR (fns.drop (i + 1))) := by
  conv => lhs; rw [<- List.take_append_drop i fns, List.drop_eq_getElem_cons h]
  unfold allR
  rw [List.flatMap_append, List.flatMap_cons]
 rw [e]
 refine (List.Sublist.refl _).append (List.Sublist.trans ?_ (List.sublist_append_left _ _))
 unfold rtsP
 refine List.Sublist.filter _ ?_
 have : (rts fns[i]).take 2 = rts fns[i] := rfl
 rw [this]
 exact List.take_sublist _ _
theorem zhT (f : FnD) {b : Nat} (h : b < (rts f).length) (hk : (rts f)[b] < 0) : rtsP f (b + 1) = rtsP f b := by
 unfold rtsP
 rw [List.take_succ_eq_append_getElem h, List.filter_append]
 have : ¬ (0 <= (rts f)[b]) := by omega
 simp [this]
theorem zhS (f : FnD) {b : Nat} (h : b < (rts f).length) (hk : 0 <= (rts f)[b]) : rtsP f (b + 1) = rtsP f b ++ [(rts f)[b]] := by
 unfold rtsP
 rw [List.take_succ_eq_append_getElem h, List.filter_append]
 simp [hk]
theorem zjs (f : FnD) (b : Nat) : (rtsP f b).length <= 2 := by
 unfold rtsP
 refine Nat.le_trans (List.length_filter_le _ _) ?_
 rw [List.length_take]; simp [rts]; omega
theorem zeZ : ∀ fns : List FnD, (allR fns).length <= 2 * fns.length
 | [] => by simp [allR]
 | f :: r => by
  have h1 := zeZ r
  have h2 := zjs f 2
  unfold allR at h1 |-
  rw [List.flatMap_cons, List.length_append, List.length_cons]
  omega
def zfm (p : ProgramD) (m : Nat) : Bool := (((cntK p.nodes p.nodes.length m : Nat) : Int) + 1000 * ((allR p.fns).count (m : Int) : Int) == 1) || (((cntK p.nodes p.nodes.length m : Nat) : Int) + 1000 * ((allR p.fns).count (m : Int) : Int) == 1000)
def xq (p : ProgramD) (i : Nat) : Bool := XV p (fAt p.fns i) && xd p.fns (fAt p.fns i).name == (i : Int)
def Zz (p : ProgramD) : Bool := inI p.nodes.length 1 300 && (inI p.fns.length 1 8 && (!(ye p.nodes (p.nodes.length - 1) == 0) && (zL (xq p) p.fns.length && zL (zfm p) p.nodes.length)))
theorem zjJ {nodes : List NodeD} {k : Nat} (h : YI nodes k = true) : (nAt nodes k).kids.Nodup := by
 unfold YI at h
 simp only [Bool.and_eq_true, zby] at h
 obtain ⟨_, _, _, _, _, h⟩ := h
 rw [xy] at h
 rw [List.Nodup, List.pairwise_iff_getElem]
 intro i j hi hj hij e
 have := h j hj
 simp only [kidB, Bool.and_eq_true] at this
 have h2 := this.2.1
 have hg : (nAt nodes k).kids.getD j 0 = (nAt nodes k).kids[j] := by simp [List.getD, hj]
 rw [hg, <- e] at h2
 have : (nAt nodes k).kids[i] ∈ (nAt nodes k).kids.take j := by
  rw [List.mem_take_iff_getElem]
  exact ⟨i, by omega, rfl⟩
 simp [this] at h2
structure Deep (nodes : List NodeD) : Prop where
 pos : 0 < nodes.length
 deep : ∀ n, n < nodes.length -> dAt nodes n ≠ 0
theorem zkh {nodes : List NodeD} (h : (ye nodes (nodes.length - 1) == 0) = false) : Deep nodes := by
 obtain ⟨n, hn, hl, hd⟩ := zaG h
 exact ⟨by omega, fun m hm => zaH nodes (by omega) hd⟩
theorem Deep.nodup {nodes : List NodeD} (h : Deep nodes) : ∀ x ∈ nodes, x.kids.Nodup := fun x hx => by
 obtain ⟨i, hi, rfl⟩ := List.getElem_of_mem hx
 have := zjJ (XN nodes i (h.deep i hi))
 rwa [zR hi] at this
theorem Deep.kid {nodes : List NodeD} (h : Deep nodes) {i : Nat} (hi : i < nodes.length) : ∀ kid ∈ nodes[i].kids, 0 <= kid /\ kid < i /\ kid.toNat < i := (zcj (h.deep i hi)).2
theorem ZY {p : ProgramD} {f : FnD} (h : XV p f = true) : (0 <= f.body /\ f.body.toNat < p.nodes.length) /\ (f.ret < 0 \/ (0 <= f.ret /\ f.ret.toNat < p.nodes.length)) := by
 simp only [XV, Bool.and_eq_true, zcm] at h
 obtain ⟨_, _, _, _, ⟨hb, _⟩, hr⟩ := h
 have hb := zy hb
 refine ⟨⟨hb.1, by omega⟩, ?_⟩
 unfold ziG at hr
 split at hr
 · left; have := eq_of_beq hr; omega
 · simp only [Bool.and_eq_true] at hr
   have := zy hr.1
   right; omega
def metF (p : ProgramD) (R : List Int) : Nat -> Int := fun m => if (m : Int) ∈ R then -1 else (cntK p.nodes p.nodes.length m : Int)
theorem zmZ (p : ProgramD) (R : List Int) {k : Int} (h0 : 0 <= k) : (fun m => if m = k.toNat then -1 else metF p R m) = metF p (R ++ [k]) := by
 funext m
 unfold metF
 by_cases e : m = k.toNat
 · subst e
   have e2 : ((k.toNat : Nat) : Int) = k := by omega
   rw [if_pos rfl, e2]; simp
 · rw [if_neg e]
   have e2 : ¬ (m : Int) = k := by omega
   simp [e2]
def Met (p : ProgramD) (R : List Int) : Prop := R.Nodup /\ ∀ k ∈ R, cntK p.nodes p.nodes.length k.toNat = 0
theorem Met.snoc {p : ProgramD} {R : List Int} (h : Met p R) {k : Int} (h0 : 0 <= k) (hm : metF p R k.toNat = 0) : Met p (R ++ [k]) := by
 have e2 : ((k.toNat : Nat) : Int) = k := by omega
 unfold metF at hm
 rw [e2] at hm
 split at hm
 · omega
 · rename_i hn
   refine ⟨?_, fun q hq => ?_⟩
   · rw [List.nodup_append]
     exact ⟨h.1, by simp, fun a ha b hb => by simp at hb; subst hb; exact fun e => hn (e ▸ ha)⟩
   · rcases List.mem_append.1 hq with hq | hq
     · exact h.2 q hq
     · simp at hq; subst hq; omega
theorem zoo {p : ProgramD} {R : List Int} {k : Int} (h0 : 0 <= k) (hl : k.toNat < p.nodes.length) (hs : (R ++ [k]).Sublist (allR p.fns)) (hm : metF p R k.toNat ≠ 0) : zL (zfm p) p.nodes.length = false := by
 refine zB hl ?_
 have e2 : ((k.toNat : Nat) : Int) = k := by omega
 have hc := hs.count_le k
 rw [List.count_append] at hc
 have h1 : [k].count k = 1 := by simp
 unfold metF at hm
 unfold zfm
 rw [e2] at hm |-
 have h2 : 0 < R.count k \/ 0 < cntK p.nodes p.nodes.length k.toNat := by
  split at hm
  · rename_i hmem; exact Or.inl (List.count_pos_iff.2 hmem)
  · right; omega
 generalize cntK p.nodes p.nodes.length k.toNat = c at h2 |-
 generalize (allR p.fns).count k = d at hc |-
 rw [Bool.or_eq_false_iff]
 constructor
 · apply Bool.eq_false_iff.2; intro hh; have := eq_of_beq hh; omega
 · apply Bool.eq_false_iff.2; intro hh; have := eq_of_beq hh; omega
theorem zon {p : ProgramD} (h : Met p (allR p.fns)) (hD : Deep p.nodes) (hl : p.nodes.length <= 300) (m : Nat) : (metF p (allR p.fns) m == 1 || metF p (allR p.fns) m == -1) = zfm p m := by
 have hle := zho hD.nodup m p.nodes.length (Nat.le_refl _)
 unfold zfm metF
 by_cases hm : (m : Int) ∈ allR p.fns
 · have h1 : (allR p.fns).count (m : Int) = 1 := by
    rw [h.1.count, if_pos hm]
   have h2 := h.2 _ hm
   have e2 : (m : Int).toNat = m := by omega
   rw [e2] at h2
   rw [if_pos hm, h1, h2]; rfl
 · have h1 : (allR p.fns).count (m : Int) = 0 := List.count_eq_zero.2 hm
   rw [if_neg hm, h1]
   generalize cntK p.nodes p.nodes.length m = c at hle
   have e3 : ((c : Int) == -1) = false := by apply Bool.eq_false_iff.2; intro hh; have := eq_of_beq hh; omega
   have e4 : ((c : Int) + 1000 * ((0 : Nat) : Int) == 1000) = false := by apply Bool.eq_false_iff.2; intro hh; have := eq_of_beq hh; omega
   have e5 : ((c : Int) + 1000 * ((0 : Nat) : Int)) = c := by omega
   rw [e3, e4, e5]
theorem zfk (p : ProgramD) (hf : p.fns.length <= 1048576) (hn : p.nodes.length <= 1048576) (hk : ∀ x ∈ p.nodes, x.kids.length <= 1048576) (hpl : ∀ f ∈ p.fns, f.params.length <= 1048576) : zx Tryz.prog 175 [.ro (zb p)] (fun rs st => rs = [(false, [cB (Zz p)])]) := by
 refine zp (fn := Tryz.f175) (c := Tryz.f175.body.getD .skip) (res := [.tm 2]) (n := 115) ze (by kernel_rfl) (by rfl) (by kernel_rfl) (by rfl) (by rfl) (by simp [zu]) (fun uf ub C hpin hpin2 hfull => ?_)
 simp only [Tryz.f175, oD]
 have w1 : IntKind.i64.wrap ((p.nodes.length : Int) - 1) = (p.nodes.length : Int) - 1 := w64 (by omega) (by omega)
 refine Tri.step ze ?_
 simp +decide only [zb, za, zl, hpin, go_sem, aD, mU]
 refine Tri.ent ?_ (Ent.frb hfull 1)
 refine Tri.step ze ?_
 simp +decide only [zb, za, zl, hpin, go_sem, aD, mU]
 refine Tri.step ze ?_
 simp +decide only [zb, za, zl, hpin, go_sem, aD, mU]
 refine zd (in' p.nodes.length 1 300) hpin ?_
 unfold Zz
 cases h0 : inI p.nodes.length 1 300 with
 | false => simp +decide only [zl, hpin, go_sem, aD, mU]
 | true =>
 simp +decide only [zb, za, zl, hpin, go_sem, aD, mU]
 refine zd (in' p.fns.length 1 8) hpin ?_
 cases h1 : inI p.fns.length 1 8 with
 | false => simp +decide only [zl, hpin, go_sem, aD, mU]
 | true =>
 simp +decide only [w1, zb, za, zl, hpin, go_sem, aD, mU]
 refine zd (zbj p.nodes (p.nodes.length - 1) hn hk) hpin ?_
 cases h2 : ye p.nodes (p.nodes.length - 1) == 0 with
 | true => simp +decide only [h2, zl, hpin, go_sem, aD, mU]
 | false =>
 have hD := zkh h2
 have hr0 := zy h0
 have hr1 := zy h1
 have hz := zhC p.nodes.length
 have hm1 : ((8 : Nat) : Int) * (p.nodes.length : Int) <= 281474976710656 := by omega
 have hm2 : (p.nodes.length : Int) <= 140737488355328 := by omega
 simp only [cI] at hz
 simp +decide only [h2, zl, hpin, go_sem, aD, mU]
 refine Tri.step ze ?_
 simp +decide only [hm1, hm2, hz, iN, za, zl, hpin, go_sem, aD, mU]
 refine Tri.step ze ?_
 simp +decide only [za, zl, hpin, go_sem, aD, mU]
 refine Tri.loop (ι := Nat) (fun i => i <= p.nodes.length) (fun i => ⟨115, [(1, .ip (za true p) 0), (2, vB false), (4, .ref 4 [] p.nodes.length), (39, .imm 83 (rows (zg true) p.nodes)), (40, vI p.nodes.length), (41, vI i)], [(4, .row 3 (row1 cI (tabI p.nodes.length fun m => (cntK p.nodes i m : Int))))]⟩) (fun i => p.nodes.length - i) 0 (by simp) ?_ ?_
 · have e0 : tabI p.nodes.length (fun m => (cntK p.nodes 0 m : Int)) = tabI p.nodes.length (fun _ => 0) := ZU (fun m _ => by simp [cntK, sumN])
   refine Ent.weak ?_ ?_ ?_ ?_ <;> simp +decide [subT, subB, zj, zi, zm, St.get, look, vI, vB, vS, cI, cS, cB, zg, roI, za, e0]
 · rintro i hi
   refine zf ze _ ?_
   by_cases h' : i < p.nodes.length
   · have e : ((i : Int) < (p.nodes.length : Int)) = True := by simp [h']
     have hkx := hk p.nodes[i] (lM h')
     have hkid := hD.kid h'
     have hnd := hD.nodup p.nodes[i] (lM h')
     have hlast := ziT h'
     have hx : (rows (zg true) p.nodes).getD i [] = zg true p.nodes[i] := zk _ _ h'
     generalize p.nodes[i] = x at hx hkx hkid hnd hlast
     simp +decide only [e, h', hx, zg, iN, za, vB, vI, zl, hpin, go_sem, aD, mU]
     refine Tri.loop (ι := Nat) (fun j => j <= x.kids.length) (fun j => ⟨115, [(1, .ip (za true p) 0), (2, vB false), (4, .ref 4 [] p.nodes.length), (39, .imm 83 (rows (zg true) p.nodes)), (40, vI p.nodes.length), (41, vI i), (46, roI x.kids), (47, vI x.kids.length), (48, vI j)], [(4, .row 3 (row1 cI (tabI p.nodes.length (cntF p.nodes x i j))))]⟩) (fun j => x.kids.length - j) 0 (by simp) ?_ ?_
     · have e0 : tabI p.nodes.length (cntF p.nodes x i 0) = tabI p.nodes.length (fun m => (cntK p.nodes i m : Int)) := ZU (fun m _ => ziR p.nodes x i m)
       refine Ent.weak ?_ ?_ ?_ ?_ <;> simp +decide [subT, subB, zj, zi, zm, St.get, look, vI, vB, vS, cI, cS, cB, zg, roI, za, e0]
     · rintro j hj
       refine zf ze _ ?_
       by_cases hj' : j < x.kids.length
       · have e2 : ((j : Int) < (x.kids.length : Int)) = True := by simp [hj']
         obtain ⟨q0, q1, q2⟩ := hkid x.kids[j] (lM hj')
         have hkl : x.kids[j].toNat < p.nodes.length := by omega
         have z0 : (0 <= x.kids[j]) = True := eq_true q0
         have z1 : (x.kids[j] < (p.nodes.length : Int)) = True := eq_true (by omega)
         have hrg := zfZ hD.nodup hnd (Nat.le_of_lt h') j x.kids[j].toNat
         have wv : IntKind.i64.wrap (cntF p.nodes x i j x.kids[j].toNat + 1) = cntF p.nodes x i j x.kids[j].toNat + 1 := w64 (by omega) (by omega)
         have hset := zbn (f := cntF p.nodes x i j) hkl (cntF p.nodes x i j x.kids[j].toNat + 1)
         have hgq := xv (f := cntF p.nodes x i j) hkl
         rw [ziS hj' q0] at hset
         simp only [cI] at hset hgq
         simp +decide only [e2, z0, z1, wv, hset, hgq, hkl, zw _ _ hj', iN, za, vB, vI, zl, hpin, go_sem, aD, mU]
         refine ⟨j + 1, hj', by omega, Ent.weak ?_ ?_ ?_ ?_⟩
         all_goals simp +decide [subT, subB, zj, zi, zm, St.get, look, vI, vB, vS, cI, cS, cB, zg, roI, za, hgq, hset, w64s (n := x.kids.length) hj' (by omega)]
       · have hjl : j = x.kids.length := by omega
         subst hjl
         have e2 : ((x.kids.length : Int) < (x.kids.length : Int)) = False := by simp
         have e9 : tabI p.nodes.length (cntF p.nodes x i x.kids.length) = tabI p.nodes.length (fun m => (cntK p.nodes (i + 1) m : Int)) := ZU (fun m _ => hlast m)
         simp +decide only [e2, za, vB, vI, zl, hpin, go_sem, aD, mU]
         refine ⟨i + 1, h', by omega, Ent.weak ?_ ?_ ?_ ?_⟩
         all_goals simp +decide [subT, subB, zj, zi, zm, St.get, look, vI, vB, vS, cI, cS, cB, zg, roI, za, e9, w64s (n := p.nodes.length) h' (by omega)]
   · have hil : i = p.nodes.length := by omega
     subst hil
     have e : ((p.nodes.length : Int) < (p.nodes.length : Int)) = False := by simp
     have e1 : (fun m => (cntK p.nodes p.nodes.length m : Int)) = metF p (allR (p.fns.take 0)) := by funext m; simp [allR, metF]
     simp +decide only [e, za, vB, vI, zl, hpin, go_sem, aD, mU]
     rw [e1]
     refine Tri.step ze ?_
     simp +decide only [za, zl, hpin, go_sem, aD, mU]
     refine Tri.loop (ι := Nat) (fun i => i <= p.fns.length /\ Met p (allR (p.fns.take i)) /\ zL (xq p) i = true) (fun i => ⟨115, [(1, .ip (za true p) 0), (2, vB false), (4, .ref 4 [] p.nodes.length), (61, .imm 104 (rows (fnC true) p.fns)), (62, vI p.fns.length), (63, vI i)], [(4, .row 3 (row1 cI (tabI p.nodes.length (metF p (allR (p.fns.take i))))))]⟩) (fun i => p.fns.length - i) 0 ⟨by simp, ⟨by simp [allR], by simp [allR]⟩, rfl⟩ ?_ ?_
     · refine Ent.weak ?_ ?_ ?_ ?_ <;> simp +decide [subT, subB, zj, zi, zm, St.get, look, vI, vB, vS, cI, cS, cB, zg, roI, za]
     · rintro i ⟨hi, hM, hB⟩
       refine zf ze _ ?_
       by_cases h' : i < p.fns.length
       · have e : ((i : Int) < (p.fns.length : Int)) = True := by simp [h']
         have hplx := hpl p.fns[i] (lM h')
         have hx : (rows (fnC true) p.fns).getD i [] = fnC true p.fns[i] := zk _ _ h'
         have hnext := zjb h'
         have hsub := fun b => zld h' b
         have hfr : xq p i = (XV p p.fns[i] && xd p.fns p.fns[i].name == (i : Int)) := by unfold xq; rw [yS h']
         generalize p.fns[i] = f at hx hplx hnext hsub hfr
         have hf2 := zjX p f hn hplx
         have ha2 := Ym p f.name hf
         simp only [fnW, zb] at hf2 ha2
         simp +decide only [e, h', hx, fnC, iN, za, vB, vI, zl, hpin, go_sem, aD, mU]
         refine zd hf2 hpin ?_
         cases g0 : XV p f with
         | false =>
          have hff : zL (xq p) p.fns.length = false := zB h' (by rw [hfr, g0]; rfl)
          simp +decide only [hff, zl, hpin, go_sem, aD, mU]
         | true =>
         simp +decide only [zl, hpin, go_sem, aD, mU]
         refine zd ha2 hpin ?_
         cases g1 : xd p.fns f.name == (i : Int) with
         | false =>
          have hff : zL (xq p) p.fns.length = false := zB h' (by rw [hfr, g0, g1]; rfl)
          simp +decide only [hff, g1, bne, zl, hpin, go_sem, aD, mU]
         | true =>
         have hB2 : zL (xq p) (i + 1) = true := by rw [zQ, hB, hfr, g0, g1]; rfl
         have hrt := ZY g0
         simp +decide only [g1, bne, zl, hpin, go_sem, aD, mU]
         have hR : ∀ b (hb : b < (rts f).length), (rts f)[b] < 0 \/ (0 <= (rts f)[b] /\ (rts f)[b].toNat < p.nodes.length) := fun b hb => by
          match b, hb with
          | 0, _ => exact Or.inr hrt.1
          | 1, _ => exact hrt.2
         have hRl : (rts f).length = 2 := rfl
         have er : [[D.sc (Value.int IntKind.i64 f.body)], [D.sc (Value.int IntKind.i64 f.ret)]] = row1 cI (rts f) := rfl
         have e0 : allR (p.fns.take i) ++ rtsP f 0 = allR (p.fns.take i) := by simp [rtsP]
         have hskip := fun b (hb : b < (rts f).length) (hk : (rts f)[b] < 0) => zhT f hb hk
         have htake := fun b (hb : b < (rts f).length) (hk : 0 <= (rts f)[b]) => zhS f hb hk
         rw [er]
         generalize allR (p.fns.take i) = A at hM hnext hsub e0 |-
         generalize hB4 : rts f = L at hR hRl hskip htake
         refine Tri.loop (ι := Nat) (fun b => b <= 2 /\ Met p (A ++ rtsP f b)) (fun b => ⟨115, [(1, .ip (za true p) 0), (2, vB false), (4, .ref 4 [] p.nodes.length), (61, .imm 104 (rows (fnC true) p.fns)), (62, vI p.fns.length), (63, vI i), (84, .ref 3084 [] 2), (85, vI (2 : Nat)), (86, vI b)], [(3084, .row 3 (row1 cI L)), (4, .row 3 (row1 cI (tabI p.nodes.length (metF p (A ++ rtsP f b)))))]⟩) (fun b => 2 - b) 0 ⟨by simp, by rw [e0]; exact hM⟩ ?_ ?_
         · refine Ent.weak ?_ ?_ ?_ ?_ <;> simp +decide [subT, subB, zj, zi, zm, St.get, look, vI, vB, vS, cI, cS, cB, zg, roI, za, e0]
         · rintro b ⟨hb, hM2⟩
           refine zf ze _ ?_
           by_cases hb' : b < 2
           · have e3 : ((b : Int) < ((2 : Nat) : Int)) = True := by simp; omega
             have hbl : b < L.length := by omega
             simp +decide only [e3, hb', zW _ _ hbl, iN, za, vB, vI, zl, hpin, go_sem, aD, mU]
             rcases hR b hbl with hneg | ⟨y0, y1⟩
             · have y2 : (L[b] < 0) = True := eq_true hneg
               have e4 := hskip b hbl hneg
               simp +decide only [y2, zl, hpin, go_sem, aD, mU]
               refine ⟨b + 1, ⟨hb', by rw [e4]; exact hM2⟩, by omega, Ent.weak ?_ ?_ ?_ ?_⟩
               all_goals simp +decide [subT, subB, zj, zi, zm, St.get, look, vI, vB, vS, cI, cS, cB, zg, roI, za, e4, w64s (n := 2) hb' (by omega)]
             · have y2 : (L[b] < 0) = False := eq_false (by omega)
               have y3 : (0 <= L[b]) = True := eq_true y0
               have y4 : (L[b] < (p.nodes.length : Int)) = True := eq_true (by omega)
               have e4 := htake b hbl y0
               have hset := zbn (f := metF p (A ++ rtsP f b)) y1 (-1)
               have hgq := xv (f := metF p (A ++ rtsP f b)) y1
               rw [zmZ p _ y0] at hset
               simp only [cI, List.append_assoc] at hset hgq
               rw [<- e4] at hset
               simp +decide only [y2, y3, y4, y1, hgq, iN, bne, zl, hpin, go_sem, aD, mU]
               cases hm : metF p (A ++ rtsP f b) L[b].toNat == 0 with
               | false =>
                have hbad := zoo y0 y1 (by rw [List.append_assoc, <- e4]; exact hsub (b + 1)) (by simpa using hm)
                simp +decide only [hm, hbad, zl, hpin, go_sem, aD, mU]
               | true =>
                have hM3 := hM2.snoc y0 (by simpa using hm)
                rw [List.append_assoc, <- e4] at hM3
                simp +decide only [hm, hset, hgq, y1, y3, y4, zl, hpin, go_sem, aD, mU]
                refine ⟨b + 1, ⟨hb', hM3⟩, by omega, Ent.weak ?_ ?_ ?_ ?_⟩
                all_goals simp +decide [subT, subB, zj, zi, zm, St.get, look, vI, vB, vS, cI, cS, cB, zg, roI, za, hgq, hset, w64s (n := 2) hb' (by omega)]
           · have hb2 : b = 2 := by omega
             subst hb2
             have e3 : (((2 : Nat) : Int) < ((2 : Nat) : Int)) = False := by simp
             rw [<- hnext] at hM2
             simp +decide only [e3, za, vB, vI, zl, hpin, go_sem, aD, mU]
             refine ⟨i + 1, ⟨h', hM2, hB2⟩, by omega, Ent.weak ?_ ?_ ?_ ?_⟩
             all_goals simp +decide [subT, subB, zj, zi, zm, St.get, look, vI, vB, vS, cI, cS, cB, zg, roI, za, hnext, w64s (n := p.fns.length) h' (by omega)]
       · have hil : i = p.fns.length := by omega
         subst hil
         have e : ((p.fns.length : Int) < (p.fns.length : Int)) = False := by simp
         rw [List.take_length] at hM
         have hlast := zon hM hD (by omega)
         simp +decide only [e, za, vB, vI, zl, hpin, go_sem, aD, mU]
         rw [hB]
         refine Tri.step ze ?_
         simp +decide only [za, zl, hpin, go_sem, aD, mU]
         refine Tri.loop (ι := Nat) (fun m => m <= p.nodes.length /\ zL (zfm p) m = true) (fun m => ⟨115, [(2, vB false), (102, .ref 4 [] p.nodes.length), (103, vI p.nodes.length), (104, vI m)], [(4, .row 3 (row1 cI (tabI p.nodes.length (metF p (allR p.fns)))))]⟩) (fun m => p.nodes.length - m) 0 ⟨by simp, rfl⟩ ?_ ?_
         · refine Ent.weak ?_ ?_ ?_ ?_ <;> simp +decide [subT, subB, zj, zi, zm, St.get, look, vI, vB, vS, cI, cS, cB, zg, roI, za]
         · rintro m ⟨hm, hq⟩
           refine zf ze _ ?_
           by_cases h' : m < p.nodes.length
           · have e : ((m : Int) < (p.nodes.length : Int)) = True := by simp [h']
             have hgq := xv (f := metF p (allR p.fns)) h'
             have hl := hlast m
             simp only [cI] at hgq
             generalize metF p (allR p.fns) m = z at hgq hl
             simp +decide only [e, h', hgq, iN, bne, vB, vI, zl, hpin, go_sem, aD, mU]
             cases z1 : z == 1 with
             | true =>
              rw [z1, bT] at hl
              simp +decide only [z1, zl, hpin, go_sem, aD, mU]
              refine ⟨m + 1, ⟨h', by rw [zQ, hq, <- hl]; rfl⟩, by omega, Ent.weak ?_ ?_ ?_ ?_⟩
              all_goals simp +decide [subT, subB, zj, zi, zm, St.get, look, vI, vB, vS, cI, cS, cB, zg, roI, w64s (n := p.nodes.length) h' (by omega)]
             | false =>
              rw [z1, bO] at hl
              cases z2 : z == -1 with
              | true =>
               rw [z2] at hl
               simp +decide only [z1, z2, zl, hpin, go_sem, aD, mU]
               refine ⟨m + 1, ⟨h', by rw [zQ, hq, <- hl]; rfl⟩, by omega, Ent.weak ?_ ?_ ?_ ?_⟩
               all_goals simp +decide [subT, subB, zj, zi, zm, St.get, look, vI, vB, vS, cI, cS, cB, zg, roI, w64s (n := p.nodes.length) h' (by omega)]
              | false =>
               rw [z2] at hl
               have hf : zL (zfm p) p.nodes.length = false := zB h' hl.symm
               simp +decide only [z1, z2, hf, zl, hpin, go_sem, aD, mU]
           · have hil : m = p.nodes.length := by omega
             subst hil
             have e : ((p.nodes.length : Int) < (p.nodes.length : Int)) = False := by simp
             rw [hq]
             simp +decide only [e, vB, vI, zl, hpin, go_sem, aD, mU]
             refine zf ze _ ?_
             simp +decide only [zl, hpin, go_sem, aD, mU]
theorem zlk (nodes : List NodeD) (hD : Deep nodes) (hn : nodes.length <= 1048576) (hk : ∀ x ∈ nodes, x.kids.length <= 1048576) : zx Tryz.prog 194 [.ro (.imm 83 (rows (zg true) nodes))] (fun rs st => rs = [(false, [.row false 3 (row1 cI (tabI nodes.length fun m => (cntK nodes nodes.length m : Int)))])]) := by
 refine zp (fn := Tryz.f194) (c := Tryz.f194.body.getD .skip) (res := [.tm 2]) (n := 39) ze (by kernel_rfl) (by rfl) (by kernel_rfl) (by rfl) (by rfl) (by simp [zu]) (fun uf ub C hpin hpin2 hfull => ?_)
 simp only [Tryz.f194, oD]
 have hz := zhC nodes.length
 have hm1 : ((8 : Nat) : Int) * (nodes.length : Int) <= 281474976710656 := by omega
 have hm2 : (nodes.length : Int) <= 140737488355328 := by omega
 simp only [cI] at hz
 refine Tri.step ze ?_
 simp +decide only [zl, hpin, go_sem, aD, mU]
 refine Tri.step ze ?_
 simp +decide only [hm1, hm2, hz, iN, zl, hpin, go_sem, aD, mU]
 refine Tri.step ze ?_
 simp +decide only [zl, hpin, go_sem, aD, mU]
 refine Tri.loop (ι := Nat) (fun i => i <= nodes.length) (fun i => ⟨39, [(0, .imm 83 (rows (zg true) nodes)), (3, .ref 3 [] nodes.length), (4, vI i)], [(3, .row 3 (row1 cI (tabI nodes.length fun m => (cntK nodes i m : Int))))]⟩) (fun i => nodes.length - i) 0 (by simp) ?_ ?_
 · have e0 : tabI nodes.length (fun m => (cntK nodes 0 m : Int)) = tabI nodes.length (fun _ => 0) := ZU (fun m _ => by simp [cntK, sumN])
   refine Ent.weak ?_ ?_ ?_ ?_ <;> simp +decide [subT, subB, zj, zi, zm, St.get, look, vI, vB, vS, cI, cS, cB, zg, roI, e0]
 · rintro i hi
   refine zf ze _ ?_
   by_cases h' : i < nodes.length
   · have e : ((i : Int) < (nodes.length : Int)) = True := by simp [h']
     have hkx := hk nodes[i] (lM h')
     have hkid := hD.kid h'
     have hnd := hD.nodup nodes[i] (lM h')
     have hlast := ziT h'
     generalize hx : nodes[i] = x at hkx hkid hnd hlast
     simp +decide only [e, vB, vI, zl, hpin, go_sem, aD, mU]
     refine Tri.loop (ι := Nat) (fun j => j <= x.kids.length) (fun j => ⟨39, [(0, .imm 83 (rows (zg true) nodes)), (3, .ref 3 [] nodes.length), (4, vI i), (5, vI j)], [(3, .row 3 (row1 cI (tabI nodes.length (cntF nodes x i j))))]⟩) (fun j => x.kids.length - j) 0 (by simp) ?_ ?_
     · have e0 : tabI nodes.length (cntF nodes x i 0) = tabI nodes.length (fun m => (cntK nodes i m : Int)) := ZU (fun m _ => ziR nodes x i m)
       refine Ent.weak ?_ ?_ ?_ ?_ <;> simp +decide [subT, subB, zj, zi, zm, St.get, look, vI, vB, vS, cI, cS, cB, zg, roI, e0]
     · rintro j hj
       refine zf ze _ ?_
       by_cases hj' : j < x.kids.length
       · have e2 : ((j : Int) < (x.kids.length : Int)) = True := by simp [hj']
         obtain ⟨q0, q1, q2⟩ := hkid x.kids[j] (lM hj')
         have hkl : x.kids[j].toNat < nodes.length := by omega
         have z0 : (0 <= x.kids[j]) = True := eq_true q0
         have z1 : (x.kids[j] < (nodes.length : Int)) = True := eq_true (by omega)
         have hrg := zfZ hD.nodup hnd (Nat.le_of_lt h') j x.kids[j].toNat
         have wv : IntKind.i64.wrap (cntF nodes x i j x.kids[j].toNat + 1) = cntF nodes x i j x.kids[j].toNat + 1 := w64 (by omega) (by omega)
         have hset := zbn (f := cntF nodes x i j) hkl (cntF nodes x i j x.kids[j].toNat + 1)
         have hgq := xv (f := cntF nodes x i j) hkl
         rw [ziS hj' q0] at hset
         simp only [cI] at hset hgq
         simp +decide only [e, e2, z0, z1, wv, hset, hgq, hkl, zk _ _ h', hx, zg, zw _ _ hj', iN, vB, vI, zl, hpin, go_sem, aD, mU]
         refine ⟨j + 1, hj', by omega, Ent.weak ?_ ?_ ?_ ?_⟩
         all_goals simp +decide [subT, subB, zj, zi, zm, St.get, look, vI, vB, vS, cI, cS, cB, zg, roI, hgq, hset, w64s (n := x.kids.length) hj' (by omega)]
       · have hjl : j = x.kids.length := by omega
         subst hjl
         have e2 : ((x.kids.length : Int) < (x.kids.length : Int)) = False := by simp
         have e9 : tabI nodes.length (cntF nodes x i x.kids.length) = tabI nodes.length (fun m => (cntK nodes (i + 1) m : Int)) := ZU (fun m _ => hlast m)
         simp +decide only [e, e2, zk _ _ h', hx, zg, iN, vB, vI, zl, hpin, go_sem, aD, mU]
         refine ⟨i + 1, h', by omega, Ent.weak ?_ ?_ ?_ ?_⟩
         all_goals simp +decide [subT, subB, zj, zi, zm, St.get, look, vI, vB, vS, cI, cS, cB, zg, roI, e9, w64s (n := nodes.length) h' (by omega)]
   · have hil : i = nodes.length := by omega
     subst hil
     have e : ((nodes.length : Int) < (nodes.length : Int)) = False := by simp
     simp +decide only [e, vB, vI, zl, hpin, go_sem, aD, mU]
     refine zf ze _ ?_
     simp +decide only [zl, hpin, go_sem, aD, mU]
def useF (p : ProgramD) (R : List Int) : Nat -> Int := fun m => (cntK p.nodes p.nodes.length m : Int) + 1000 * (R.count (m : Int) : Int)
theorem znO (p : ProgramD) : (fun m => (cntK p.nodes p.nodes.length m : Int)) = useF p (allR (p.fns.take 0)) := by funext m; simp [useF, allR]
theorem zhx (p : ProgramD) (R : List Int) {k : Int} (h0 : 0 <= k) : (fun m => if m = k.toNat then useF p R k.toNat + 1000 else useF p R m) = useF p (R ++ [k]) := by
 funext m
 unfold useF
 rw [List.count_append]
 by_cases e : m = k.toNat
 · subst e
   have e2 : ((k.toNat : Nat) : Int) = k := by omega
   rw [if_pos rfl, e2]
   simp; omega
 · rw [if_neg e]
   have e2 : (k == (m : Int)) = false := by apply Bool.eq_false_iff.2; intro hh; have := eq_of_beq hh; omega
   simp [List.count_cons, e2]
theorem zfE {p : ProgramD} (hD : Deep p.nodes) (hl : p.nodes.length <= 300) (hf : p.fns.length <= 8) {R : List Int} (hs : R.Sublist (allR p.fns)) (m : Nat) : 0 <= useF p R m /\ useF p R m <= 300 + 16000 := by
 have h1 := zho hD.nodup m p.nodes.length (Nat.le_refl _)
 have h2 : R.count (m : Int) <= R.length := List.count_le_length
 have h3 := hs.length_le
 have h4 := zeZ p.fns
 unfold useF
 omega
theorem zfj (p : ProgramD) (hf : p.fns.length <= 1048576) (hn : p.nodes.length <= 1048576) (hk : ∀ x ∈ p.nodes, x.kids.length <= 1048576) (hpl : ∀ f ∈ p.fns, f.params.length <= 1048576) : zx Tryz.prog 164 [.ro (zb p)] (fun rs st => rs = [(false, [cB (Zz p)])]) := by
 refine zp (fn := Tryz.f164) (c := Tryz.f164.body.getD .skip) (res := [.tm 2]) (n := 108) ze (by kernel_rfl) (by rfl) (by kernel_rfl) (by rfl) (by rfl) (by simp [zu]) (fun uf ub C hpin hpin2 hfull => ?_)
 simp only [Tryz.f164, oD]
 refine Tri.step ze ?_
 simp +decide only [zb, za, zl, hpin, go_sem, aD, mU]
 refine Tri.ent ?_ (Ent.frb hfull 1)
 refine Tri.step ze ?_
 simp +decide only [zb, za, zl, hpin, go_sem, aD, mU]
 refine zd (xp p.nodes.length 1 300) hpin ?_
 unfold Zz
 cases h0 : inI p.nodes.length 1 300 with
 | false => simp +decide only [zl, hpin, go_sem, aD, mU]
 | true =>
 simp +decide only [zb, za, zl, hpin, go_sem, aD, mU]
 refine zd (xp p.fns.length 1 8) hpin ?_
 cases h1 : inI p.fns.length 1 8 with
 | false => simp +decide only [zl, hpin, go_sem, aD, mU]
 | true =>
 have hr0 := zy h0
 have hr1 := zy h1
 obtain ⟨n, hnn⟩ : ∃ n : Nat, p.nodes.length = n + 1 := ⟨p.nodes.length - 1, by omega⟩
 have e9 : (p.nodes.length : Int) - 1 = (n : Int) := by omega
 have w1 : IntKind.i64.wrap ((p.nodes.length : Int) - 1) = (n : Int) := by rw [w64 (by omega) (by omega)]; exact e9
 have hll := yE p.nodes (n + 1)
 have hlt : n < (zG p.nodes (n + 1)).length := by omega
 have hg : (zG p.nodes (n + 1))[n] = ye p.nodes n := by
  have := Xf p.nodes (show n < n + 1 by omega)
  simp only [List.getD, hlt, lE, oD] at this
  have h9 : inI (n : Int) 0 (p.nodes.length - 1) = true := by simp [inI]; omega
  rw [this]; simp [ye, h9, dAt]
 have hc : ((n : Int) < ((n + 1 : Nat) : Int)) = True := eq_true (by omega)
 have w2 : IntKind.i64.wrap (((n + 1 : Nat) : Int) - 1) = (n : Int) := by rw [w64 (by omega) (by omega)]; omega
 simp +decide only [zl, hpin, go_sem, aD, mU]
 refine Tri.step ze ?_
 simp +decide only [w1, za, zl, hpin, go_sem, aD, mU]
 refine zd (zcJ p.nodes n (by omega) hn hk) hpin ?_
 simp +decide only [hll, zl, hpin, go_sem, aD, mU]
 refine Tri.step ze ?_
 simp +decide only [hll, w2, hc, zW _ _ hlt, hg, iN, zl, hpin, go_sem, aD, mU]
 rw [e9]
 cases h2 : ye p.nodes n == 0 with
 | true => simp +decide only [h2, zl, hpin, go_sem, aD, mU]
 | false =>
 have hD := zkh (nodes := p.nodes) (by rw [e9]; exact h2)
 simp +decide only [h2, zl, hpin, go_sem, aD, mU]
 refine Tri.step ze ?_
 simp +decide only [za, zl, hpin, go_sem, aD, mU]
 refine zd (zlk p.nodes hD hn hk) hpin ?_
 rw [znO p]
 simp +decide only [za, zl, hpin, go_sem, aD, mU]
 refine Tri.step ze ?_
 simp +decide only [za, zl, hpin, go_sem, aD, mU]
 refine Tri.loop (ι := Nat) (fun i => i <= p.fns.length /\ zL (xq p) i = true) (fun i => ⟨108, [(1, .ip (za true p) 0), (2, vB false), (4, .ref 4 [] p.nodes.length), (5, vI i)], [(4, .row 3 (row1 cI (tabI p.nodes.length (useF p (allR (p.fns.take i))))))]⟩) (fun i => p.fns.length - i) 0 ⟨by simp, rfl⟩ ?_ ?_
 · refine Ent.weak ?_ ?_ ?_ ?_ <;> simp +decide [subT, subB, zj, zi, zm, St.get, look, vI, vB, vS, cI, cS, cB, zg, roI, za]
 · rintro i ⟨hi, hB⟩
   refine zf ze _ ?_
   by_cases h' : i < p.fns.length
   · have e : ((i : Int) < (p.fns.length : Int)) = True := by simp [h']
     have hfn := zjW p i h' hf hn hpl
     have hx : (rows (fnC true) p.fns).getD i [] = fnC true p.fns[i] := zk _ _ h'
     have hnext := zjb h'
     have hsub := fun b => zld h' b
     have hfr : xq p i = (XV p p.fns[i] && xd p.fns p.fns[i].name == (i : Int)) := by unfold xq; rw [yS h']
     simp only [zb] at hfn
     generalize p.fns[i] = f at hfn hx hnext hsub hfr
     rw [<- hfr] at hfn
     simp +decide only [e, iN, za, vB, vI, zl, hpin, go_sem, aD, mU]
     refine zd hfn hpin ?_
     cases g0 : xq p i with
     | false =>
      have hff : zL (xq p) p.fns.length = false := zB h' g0
      simp +decide only [hff, zl, hpin, go_sem, aD, mU]
     | true =>
     have hB2 : zL (xq p) (i + 1) = true := by rw [zQ, hB, g0]; rfl
     rw [g0] at hfr
     have hrt := ZY (Bool.and_eq_true_iff.1 hfr.symm).1
     simp +decide only [e, iN, za, vB, vI, zl, hpin, go_sem, aD, mU]
     refine Tri.sched ze [(0, true), (1, true), (3, true), (7, true), (8, true), (10, true), (2, true), (4, true), (5, true), (6, true), (9, false), (11, false), (12, false), (13, false), (14, false), (15, false), (16, false), (17, false), (18, false)] zO (by kernel_rfl) (fun C2 hC2 => ?_)
     have hp2 := zP hC2 hpin
     have e0 : allR (p.fns.take i) ++ rtsP f 0 = allR (p.fns.take i) := by simp [rtsP]
     have r1 : rtsP f 1 = [f.body] := by simp [rtsP, rts, hrt.1.1]
     obtain ⟨⟨y0, y1⟩, hret⟩ := hrt
     have z0 : (0 <= f.body) = True := eq_true y0
     have z1 : (f.body < (p.nodes.length : Int)) = True := eq_true (by omega)
     have hs1 := hsub 1
     rw [r1] at hs1
     have hrg := zfE hD (by omega) (by omega) ((List.sublist_append_left (allR (p.fns.take i)) _).trans hs1) f.body.toNat
     have hset := zbn (f := useF p (allR (p.fns.take i))) y1 (useF p (allR (p.fns.take i)) f.body.toNat + 1000)
     have hgq := xv (f := useF p (allR (p.fns.take i))) y1
     have hgd := zkw (f := useF p (allR (p.fns.take i))) y1
     rw [zhx p _ y0, <- r1] at hset
     have wv : IntKind.i64.wrap (useF p (allR (p.fns.take i)) f.body.toNat + 1000) = useF p (allR (p.fns.take i)) f.body.toNat + 1000 := w64 (by omega) (by omega)
     simp only [cI] at hset hgq hgd
     simp +decide only [e, h', hx, fnC, z0, z1, y1, wv, hgq, hgd, hset, iN, za, vB, vI, zl, hp2, go_sem, aD, mU]
     rcases hret with hneg | ⟨x0, x1⟩
     · have r2 : rtsP f 2 = rtsP f 1 := zhT f (b := 1) (by simp [rts]) hneg
       have z5 : (0 <= f.ret) = False := eq_false (by omega)
       rw [r2] at hnext
       simp +decide only [z5, zl, hpin, go_sem, aD, mU]
       refine ⟨i + 1, ⟨h', hB2⟩, by omega, Ent.weak ?_ ?_ ?_ ?_⟩
       all_goals simp +decide [subT, subB, zj, zi, zm, St.get, look, vI, vB, vS, cI, cS, cB, zg, roI, za, hnext, hgq, hset, w64s (n := p.fns.length) h' (by omega)]
     · have r2 : rtsP f 2 = rtsP f 1 ++ [f.ret] := zhS f (b := 1) (by simp [rts]) x0
       have z5 : (0 <= f.ret) = True := eq_true x0
       have z6 : (f.ret < (p.nodes.length : Int)) = True := eq_true (by omega)
       rw [r2, <- List.append_assoc] at hnext
       have hs2 := hsub 1
       have hset2 := zbn (f := useF p (allR (p.fns.take i) ++ rtsP f 1)) x1 (useF p (allR (p.fns.take i) ++ rtsP f 1) f.ret.toNat + 1000)
       have hgq2 := xv (f := useF p (allR (p.fns.take i) ++ rtsP f 1)) x1
       have hgd2 := zkw (f := useF p (allR (p.fns.take i) ++ rtsP f 1)) x1
       rw [zhx p _ x0, <- hnext] at hset2
       have hrg2 := zfE hD (by omega) (by omega) hs2 f.ret.toNat
       have wv2 : IntKind.i64.wrap (useF p (allR (p.fns.take i) ++ rtsP f 1) f.ret.toNat + 1000) = useF p (allR (p.fns.take i) ++ rtsP f 1) f.ret.toNat + 1000 := w64 (by omega) (by omega)
       simp only [cI] at hset2 hgq2 hgd2
       simp +decide only [z5, zl, hpin, go_sem, aD, mU]
       refine Tri.sched ze [(0, true), (1, true), (3, true), (7, true), (8, true), (10, true), (2, true), (4, true), (5, true), (6, true), (9, false), (11, false), (12, false), (13, false), (14, false), (15, false), (16, false), (17, false), (18, false)] zO (by kernel_rfl) (fun C3 hC3 => ?_)
       have hp3 := zP hC3 hpin
       simp +decide only [e, h', hx, fnC, z5, z6, x1, wv2, hgq2, hgd2, hset2, iN, za, vB, vI, zl, hp3, hpin, go_sem, aD, mU]
       refine ⟨i + 1, ⟨h', hB2⟩, by omega, Ent.weak ?_ ?_ ?_ ?_⟩
       all_goals simp +decide [subT, subB, zj, zi, zm, St.get, look, vI, vB, vS, cI, cS, cB, zg, roI, za, hgq2, hset2, w64s (n := p.fns.length) h' (by omega)]
   · have hil : i = p.fns.length := by omega
     subst hil
     have e : ((p.fns.length : Int) < (p.fns.length : Int)) = False := by simp
     simp +decide only [e, za, vB, vI, zl, hpin, go_sem, aD, mU]
     rw [hB]
     refine Tri.step ze ?_
     simp +decide only [za, zl, hpin, go_sem, aD, mU]
     refine Tri.loop (ι := Nat) (fun m => m <= p.nodes.length /\ zL (zfm p) m = true) (fun m => ⟨108, [(2, vB false), (4, .ref 4 [] p.nodes.length), (6, vI m)], [(4, .row 3 (row1 cI (tabI p.nodes.length (useF p (allR p.fns)))))]⟩) (fun m => p.nodes.length - m) 0 ⟨by simp, rfl⟩ ?_ ?_
     · refine Ent.weak ?_ ?_ ?_ ?_ <;> simp +decide [subT, subB, zj, zi, zm, St.get, look, vI, vB, vS, cI, cS, cB, zg, roI, za]
     · rintro m ⟨hm, hq⟩
       refine zf ze _ ?_
       by_cases h' : m < p.nodes.length
       · have e : ((m : Int) < (p.nodes.length : Int)) = True := by simp [h']
         have hgq := xv (f := useF p (allR p.fns)) h'
         have hl : (useF p (allR p.fns) m == 1 || useF p (allR p.fns) m == 1000) = zfm p m := rfl
         simp only [cI] at hgq
         generalize useF p (allR p.fns) m = z at hgq hl
         simp +decide only [e, h', hgq, iN, bne, vB, vI, zl, hpin, go_sem, aD, mU]
         cases z1 : z == 1 with
         | true =>
          rw [z1, bT] at hl
          simp +decide only [z1, zl, hpin, go_sem, aD, mU]
          refine ⟨m + 1, ⟨h', by rw [zQ, hq, <- hl]; rfl⟩, by omega, Ent.weak ?_ ?_ ?_ ?_⟩
          all_goals simp +decide [subT, subB, zj, zi, zm, St.get, look, vI, vB, vS, cI, cS, cB, zg, roI, w64s (n := p.nodes.length) h' (by omega)]
         | false =>
          rw [z1, bO] at hl
          cases z2 : z == 1000 with
          | true =>
           rw [z2] at hl
           simp +decide only [z1, z2, zl, hpin, go_sem, aD, mU]
           refine ⟨m + 1, ⟨h', by rw [zQ, hq, <- hl]; rfl⟩, by omega, Ent.weak ?_ ?_ ?_ ?_⟩
           all_goals simp +decide [subT, subB, zj, zi, zm, St.get, look, vI, vB, vS, cI, cS, cB, zg, roI, w64s (n := p.nodes.length) h' (by omega)]
          | false =>
           rw [z2] at hl
           have hf : zL (zfm p) p.nodes.length = false := zB h' hl.symm
           simp +decide only [z1, z2, hf, zl, hpin, go_sem, aD, mU]
       · have hil : m = p.nodes.length := by omega
         subst hil
         have e : ((p.nodes.length : Int) < (p.nodes.length : Int)) = False := by simp
         rw [hq]
         simp +decide only [e, vB, vI, zl, hpin, go_sem, aD, mU]
         refine zf ze _ ?_
         simp +decide only [zl, hpin, go_sem, aD, mU]
def zcB (x : ParamD) : VarD := ⟨x.name, x.ty, -1⟩
def letV (nodes : List NodeD) (k : Int) : List VarD := if (nAt nodes k).kind == 13 then [⟨(nAt nodes k).name, 0, k⟩] else []
def yf (l : List ParamD) : List VarD := l.map zcB
def xb (nodes : List NodeD) (l : List Int) : List VarD := l.flatMap (letV nodes)
noncomputable def YL (p : ProgramD) (fn : Int) : List VarD := if inI fn 0 (p.fns.length - 1) then yf (fAt p.fns fn).params ++ xb p.nodes (zI p.nodes (fAt p.fns fn).body) else []
theorem zbb (nodes : List NodeD) : ∀ l : List Int, (xb nodes l).length <= l.length
 | [] => by simp [xb]
 | k :: r => by
  have h1 := zbb nodes r
  have h2 : (letV nodes k).length <= 1 := by unfold letV; split <;> simp
  unfold xb at h1 |-
  rw [List.flatMap_cons, List.length_append, List.length_cons]; omega
theorem znb (nodes : List NodeD) {l : List Int} {i : Nat} (h : i < l.length) : xb nodes (l.take (i + 1)) = xb nodes (l.take i) ++ letV nodes l[i] := by
 unfold xb
 rw [List.take_succ_eq_append_getElem h, List.flatMap_append]; simp
def accV (nodes : List NodeD) (M : List VarD) (l : List Int) : List VarD := M ++ xb nodes l
theorem zjc (nodes : List NodeD) (M : List VarD) {l : List Int} {i : Nat} (h : i < l.length) : accV nodes M (l.take (i + 1)) = accV nodes M (l.take i) ++ letV nodes l[i] := by
 unfold accV; rw [znb nodes h, List.append_assoc]
theorem zfa (nodes : List NodeD) (M : List VarD) (l : List Int) : (accV nodes M l).length <= M.length + l.length := by
 have := zbb nodes l
 unfold accV; rw [List.length_append]; omega
theorem zdU {l : List ParamD} {i : Nat} (h : i < l.length) : yf (l.take (i + 1)) = yf (l.take i) ++ [zcB l[i]] := by
 unfold yf
 rw [List.take_succ_eq_append_getElem h, List.map_append]; rfl
theorem Zv (l : List ParamD) : (yf l).length = l.length := by simp [yf]
theorem zdb (l : List VarD) (x : VarD) : rows (varC false) l ++ [[cS x.name, cI x.ty, cI x.node]] = rows (varC false) (l ++ [x]) := yM _ l x
theorem zdq (p : ProgramD) (fn : Int) (hf : p.fns.length <= 1048576) (hn : p.nodes.length <= 1048576) (hk : ∀ x ∈ p.nodes, x.kids.length <= 1048576) (hpl : ∀ f ∈ p.fns, f.params.length <= 1048576) : zx Tryz.prog 142 [.ro (zb p), .ro (.sc (.int .i64 fn))] (fun rs st => rs = [(false, [.row false 96 (rows (varC false) (YL p fn))])]) := by
 refine zp (fn := Tryz.f142) (c := Tryz.f142.body.getD .skip) (res := [.tm 4]) (n := 68) ze (by kernel_rfl) (by rfl) (by kernel_rfl) (by rfl) (by rfl) (by simp [zu]) (fun uf ub C hpin hpin2 hfull => ?_)
 simp only [Tryz.f142, oD]
 have w1 : IntKind.i64.wrap ((p.fns.length : Int) - 1) = (p.fns.length : Int) - 1 := w64 (by omega) (by omega)
 have e0 : rows (varC false) ([] : List VarD) = [] := rfl
 refine Tri.step ze ?_
 simp +decide only [zb, za, hpin, go_sem, aD, mU]
 refine Tri.ent ?_ (Ent.frb hfull 2)
 refine Tri.step ze ?_
 simp +decide only [w1, zb, za, hpin, go_sem, aD, mU]
 refine zd (in' fn 0 (p.fns.length - 1)) hpin ?_
 unfold YL
 cases h0 : inI fn 0 (p.fns.length - 1) with
 | false => simp +decide only [e0, zb, za, hpin, go_sem, aD, mU]
 | true =>
 have hr := zy h0
 obtain ⟨f, rfl⟩ : ∃ f : Nat, fn = f := ⟨fn.toNat, by omega⟩
 have hfl : f < p.fns.length := by omega
 have c1 : ((f : Int) < (p.fns.length : Int)) = True := eq_true (by omega)
 have hx : (rows (fnC true) p.fns).getD f [] = fnC true p.fns[f] := zk _ _ hfl
 have hplx := hpl p.fns[f] (lM hfl)
 rw [yS hfl]
 generalize p.fns[f] = g at hx hplx
 simp +decide only [zb, za, hpin, go_sem, aD, mU]
 refine Tri.step ze ?_
 simp +decide only [zb, za, hpin, go_sem, aD, mU]
 refine Tri.step ze ?_
 simp +decide only [c1, hx, fnC, iN, zb, za, hpin, go_sem, aD, mU]
 refine Tri.loop (ι := Nat) (fun i => i <= g.params.length) (fun i => ⟨68, [(1, vI f), (2, .ip (za true p) 0), (5, .ref 5 [] (yf (g.params.take i)).length), (23, .imm 107 (rows (zn true) g.params)), (24, vI g.params.length), (25, vI i)], [(5, .row 96 (rows (varC false) (yf (g.params.take i))))]⟩) (fun i => g.params.length - i) 0 (by simp) ?_ ?_
 · refine Ent.weak ?_ ?_ ?_ ?_ <;> simp +decide [subT, subB, zj, zi, zm, St.get, look, vI, vB, vS, cI, cS, cB, zg, roI, za, rows, yf]
 · rintro i hi
   refine zf ze _ ?_
   by_cases h' : i < g.params.length
   · have e : ((i : Int) < (g.params.length : Int)) = True := by simp [h']
     have hnx := zdU h'
     have hlen : (yf (g.params.take i)).length <= i := by rw [Zv]; simp; omega
     have htk := ym (varC false) (yf (g.params.take i))
     have hsn := zdb (yf (g.params.take i)) (zcB g.params[i])
     have hy : (rows (zn true) g.params).getD i [] = zn true g.params[i] := zk _ _ h'
     have hl2 : (yf (g.params.take (i + 1))).length = (yf (g.params.take i)).length + 1 := by rw [hnx]; simp
     rw [<- hnx] at hsn
     simp only [zcB] at hsn
     generalize yf (g.params.take i) = M at hlen htk hsn hl2
     have hb1 : M.length + 1 <= 140737488355328 := by omega
     have hb2 : (M.length + 1) * 32 <= 140737488355328 := by omega
     simp only [cI, cS] at hsn
     simp +decide only [e, hy, zn, hb1, hb2, htk, hsn, iN, vB, vI, zb, za, hpin, go_sem, aD, mU]
     refine ⟨i + 1, h', by omega, Ent.weak ?_ ?_ ?_ ?_⟩
     all_goals simp +decide [subT, subB, zj, zi, zm, St.get, look, vI, vB, vS, cI, cS, cB, zg, roI, za, hl2, w64s (n := g.params.length) h' (by omega)]
   · have hil : i = g.params.length := by omega
     subst hil
     have e : ((g.params.length : Int) < (g.params.length : Int)) = False := by simp
     have hM : (yf g.params).length <= 1048576 := by rw [Zv]; omega
     simp +decide only [e, vB, vI, zb, za, hpin, go_sem, aD, mU]
     generalize yf g.params = M at hM |-
     refine Tri.step ze ?_
     refine Tri.sched ze [(1, true), (3, true), (9, true), (0, true), (2, false), (4, false), (5, false), (6, false), (7, false), (8, false)] zO (by kernel_rfl) (fun C2 hC2 => ?_)
     have hp2 := zP hC2 hpin
     simp +decide only [c1, hx, fnC, iN, za, zb, za, hp2, go_sem, aD, mU]
     refine zd (Yv p g.body hn hk) hp2 ?_
     simp +decide only [za, zb, za, hp2, go_sem, aD, mU]
     have hul := yB p.nodes g.body
     have hum : ∀ b (hb : b < (zI p.nodes g.body).length), 0 <= (zI p.nodes g.body)[b] /\ (zI p.nodes g.body)[b].toNat < p.nodes.length := fun b hb => by
      have := yb (lM hb)
      exact ⟨this.1, this.2.1⟩
     generalize zI p.nodes g.body = U at hul hum |-
     refine Tri.loop (ι := Nat) (fun i => i <= U.length) (fun i => ⟨68, [(2, .ip (za true p) 0), (5, .ref 5 [] (accV p.nodes M (U.take i)).length), (45, .ref 3045 [] U.length), (46, vI U.length), (47, vI i)], [(3045, .row 3 (row1 cI U)), (5, .row 96 (rows (varC false) (accV p.nodes M (U.take i))))]⟩) (fun i => U.length - i) 0 (by simp) ?_ ?_
     · have e1 : accV p.nodes M [] = M := by simp [accV, xb]
       refine Ent.weak ?_ ?_ ?_ ?_ <;> simp +decide [subT, subB, zj, zi, zm, St.get, look, vI, vB, vS, cI, cS, cB, zg, roI, za, e1]
     · rintro i hi
       refine zf ze _ ?_
       by_cases h' : i < U.length
       · have e : ((i : Int) < (U.length : Int)) = True := by simp [h']
         obtain ⟨g0, g1⟩ := hum i h'
         have z0 : (0 <= U[i]) = True := eq_true g0
         have z1 : (U[i] < (p.nodes.length : Int)) = True := eq_true (by omega)
         have hlen : (accV p.nodes M (U.take i)).length <= 1048576 + i := by
          have := zfa p.nodes M (U.take i)
          rw [List.length_take] at this
          omega
         have hat : nAt p.nodes U[i] = p.nodes[U[i].toNat] := xE g1
         have hy : (rows (zg true) p.nodes).getD U[i].toNat [] = zg true p.nodes[U[i].toNat] := zk _ _ g1
         have hnx2 := zjc p.nodes M h'
         unfold letV at hnx2
         rw [hat] at hnx2
         generalize p.nodes[U[i].toNat] = x at hy hnx2
         generalize accV p.nodes M (U.take i) = M1 at hlen hnx2
         have htk := ym (varC false) M1
         have hsn := zdb M1 ⟨x.name, 0, U[i]⟩
         have hb1 : M1.length + 1 <= 140737488355328 := by omega
         have hb2 : (M1.length + 1) * 32 <= 140737488355328 := by omega
         simp only [cI, cS] at hsn
         simp +decide only [e, z0, z1, h', zW _ _ h', hy, zg, iN, za, vB, vI, zb, za, hpin, go_sem, aD, mU]
         cases hkk : x.kind == 13 with
         | false =>
          rw [hkk, if_neg (by decide), List.append_nil] at hnx2
          simp +decide only [hkk, zb, za, hpin, go_sem, aD, mU]
          refine ⟨i + 1, h', by omega, Ent.weak ?_ ?_ ?_ ?_⟩
          all_goals simp +decide only [hnx2]
          all_goals simp +decide [subT, subB, zj, zi, zm, St.get, look, vI, vB, vS, cI, cS, cB, zg, roI, za, w64s (n := U.length) h' (by omega)]
         | true =>
          rw [hkk, if_pos rfl] at hnx2
          simp +decide only [hkk, hb1, hb2, htk, hsn, zb, za, hpin, go_sem, aD, mU]
          refine ⟨i + 1, h', by omega, Ent.weak ?_ ?_ ?_ ?_⟩
          all_goals simp +decide only [hnx2]
          all_goals simp +decide [subT, subB, zj, zi, zm, St.get, look, vI, vB, vS, cI, cS, cB, zg, roI, za, w64s (n := U.length) h' (by omega)]
       · have hil : i = U.length := by omega
         subst hil
         have e : ((U.length : Int) < (U.length : Int)) = False := by simp
         have e5 : accV p.nodes M U = M ++ xb p.nodes U := rfl
         simp +decide only [e, vB, vI, zb, za, hpin, go_sem, aD, mU]
         refine zf ze _ ?_
         simp +decide only [e5, zb, za, hpin, go_sem, aD, mU]
theorem zdp (p : ProgramD) (fn : Int) (hf : p.fns.length <= 1048576) (hn : p.nodes.length <= 1048576) (hk : ∀ x ∈ p.nodes, x.kids.length <= 1048576) (hpl : ∀ f ∈ p.fns, f.params.length <= 1048576) : zx Tryz.prog 165 [.ro (zb p), .ro (.sc (.int .i64 fn))] (fun rs st => rs = [(false, [.row false 96 (rows (varC false) (YL p fn))])]) := by
 refine zp (fn := Tryz.f165) (c := Tryz.f165.body.getD .skip) (res := [.tm 4]) (n := 85) ze (by kernel_rfl) (by rfl) (by kernel_rfl) (by rfl) (by rfl) (by simp [zu]) (fun uf ub C hpin hpin2 hfull => ?_)
 simp only [Tryz.f165, oD]
 have w1 : IntKind.i64.wrap ((p.fns.length : Int) - 1) = (p.fns.length : Int) - 1 := w64 (by omega) (by omega)
 have e0 : rows (varC false) ([] : List VarD) = [] := rfl
 refine Tri.step ze ?_
 simp +decide only [zb, za, hpin, go_sem, aD, mU]
 refine Tri.ent ?_ (Ent.frb hfull 2)
 refine Tri.step ze ?_
 simp +decide only [zb, za, hpin, go_sem, aD, mU]
 refine Tri.step ze ?_
 simp +decide only [w1, zb, za, hpin, go_sem, aD, mU]
 refine zd (xp fn 0 (p.fns.length - 1)) hpin ?_
 unfold YL
 cases h0 : inI fn 0 (p.fns.length - 1) with
 | false => simp +decide only [e0, zb, za, hpin, go_sem, aD, mU]
 | true =>
 have hr := zy h0
 obtain ⟨f, rfl⟩ : ∃ f : Nat, fn = f := ⟨fn.toNat, by omega⟩
 have hfl : f < p.fns.length := by omega
 have c1 : ((f : Int) < (p.fns.length : Int)) = True := eq_true (by omega)
 have hx : (rows (fnC true) p.fns).getD f [] = fnC true p.fns[f] := zk _ _ hfl
 have hplx := hpl p.fns[f] (lM hfl)
 rw [yS hfl]
 generalize p.fns[f] = g at hx hplx
 simp +decide only [zb, za, hpin, go_sem, aD, mU]
 refine Tri.step ze ?_
 simp +decide only [c1, hx, fnC, iN, zb, za, hpin, go_sem, aD, mU]
 refine Tri.ent ?_ (Ent.frb hfull 6)
 refine Tri.step ze ?_
 simp +decide only [zb, za, hpin, go_sem, aD, mU]
 refine Tri.loop (ι := Nat) (fun i => i <= g.params.length) (fun i => ⟨85, [(2, .ip (za true p) 0), (5, .ref 5 [] (yf (g.params.take i)).length), (6, .ip (fnC true g) 0), (7, vI i)], [(5, .row 96 (rows (varC false) (yf (g.params.take i))))]⟩) (fun i => g.params.length - i) 0 (by simp) ?_ ?_
 · refine Ent.weak ?_ ?_ ?_ ?_ <;> simp +decide [subT, subB, zj, zi, zm, St.get, look, vI, vB, vS, cI, cS, cB, zg, roI, za, fnC, rows, yf]
 · rintro i hi
   refine zf ze _ ?_
   by_cases h' : i < g.params.length
   · have e : ((i : Int) < (g.params.length : Int)) = True := by simp [h']
     have hnx := zdU h'
     have hlen : (yf (g.params.take i)).length <= i := by rw [Zv]; simp; omega
     have htk := ym (varC false) (yf (g.params.take i))
     have hsn := zdb (yf (g.params.take i)) (zcB g.params[i])
     have hy : (rows (zn true) g.params).getD i [] = zn true g.params[i] := zk _ _ h'
     have hl2 : (yf (g.params.take (i + 1))).length = (yf (g.params.take i)).length + 1 := by rw [hnx]; simp
     rw [<- hnx] at hsn
     simp only [zcB] at hsn
     generalize yf (g.params.take i) = M at hlen htk hsn hl2
     have hb1 : M.length + 1 <= 140737488355328 := by omega
     have hb2 : (M.length + 1) * 32 <= 140737488355328 := by omega
     simp only [cI, cS] at hsn
     simp +decide only [e, fnC, za, vB, vI, zb, za, hpin, go_sem, aD, mU]
     refine Tri.sched ze [(0, true), (1, true), (3, true), (7, true), (9, true), (2, true), (4, true), (5, true), (6, true), (8, false), (10, false), (11, false), (12, false), (13, false), (14, false), (15, false), (16, false)] zO (by kernel_rfl) (fun C2 hC2 => ?_)
     have hp2 := zP hC2 hpin
     simp +decide only [e, hy, zn, hb1, hb2, htk, hsn, iN, vB, vI, zb, za, hp2, hpin, go_sem, aD, mU]
     refine ⟨i + 1, h', by omega, Ent.weak ?_ ?_ ?_ ?_⟩
     all_goals simp +decide [subT, subB, zj, zi, zm, St.get, look, vI, vB, vS, cI, cS, cB, zg, roI, za, fnC, hl2, w64s (n := g.params.length) h' (by omega)]
   · have hil : i = g.params.length := by omega
     subst hil
     have e : ((g.params.length : Int) < (g.params.length : Int)) = False := by simp
     have hM : (yf g.params).length <= 1048576 := by rw [Zv]; omega
     simp +decide only [e, fnC, za, vB, vI, zb, za, hpin, go_sem, aD, mU]
     generalize yf g.params = M at hM |-
     refine Tri.step ze ?_
     simp +decide only [za, zb, za, hpin, go_sem, aD, mU]
     refine zd (Yu p g.body hn hk) hpin ?_
     simp +decide only [za, zb, za, hpin, go_sem, aD, mU]
     refine Tri.ent ?_ (Ent.frz hfull 8)
     have hul := yB p.nodes g.body
     have hum : ∀ b (hb : b < (zI p.nodes g.body).length), 0 <= (zI p.nodes g.body)[b] /\ (zI p.nodes g.body)[b].toNat < p.nodes.length := fun b hb => by
      have := yb (lM hb)
      exact ⟨this.1, this.2.1⟩
     generalize zI p.nodes g.body = U at hul hum |-
     refine Tri.step ze ?_
     simp +decide only [za, zb, za, hpin, go_sem, aD, mU]
     refine Tri.loop (ι := Nat) (fun i => i <= U.length) (fun i => ⟨85, [(2, .ip (za true p) 0), (5, .ref 5 [] (accV p.nodes M (U.take i)).length), (8, roI U), (9, vI i)], [(5, .row 96 (rows (varC false) (accV p.nodes M (U.take i))))]⟩) (fun i => U.length - i) 0 (by simp) ?_ ?_
     · have e1 : accV p.nodes M [] = M := by simp [accV, xb]
       refine Ent.weak ?_ ?_ ?_ ?_ <;> simp +decide [subT, subB, zj, zi, zm, St.get, look, vI, vB, vS, cI, cS, cB, zg, roI, za, e1]
     · rintro i hi
       refine zf ze _ ?_
       by_cases h' : i < U.length
       · have e : ((i : Int) < (U.length : Int)) = True := by simp [h']
         obtain ⟨g0, g1⟩ := hum i h'
         have z0 : (0 <= U[i]) = True := eq_true g0
         have z1 : (U[i] < (p.nodes.length : Int)) = True := eq_true (by omega)
         have hlen : (accV p.nodes M (U.take i)).length <= 1048576 + i := by
          have := zfa p.nodes M (U.take i)
          rw [List.length_take] at this
          omega
         have hat : nAt p.nodes U[i] = p.nodes[U[i].toNat] := xE g1
         have hy : (rows (zg true) p.nodes).getD U[i].toNat [] = zg true p.nodes[U[i].toNat] := zk _ _ g1
         have hnx2 := zjc p.nodes M h'
         unfold letV at hnx2
         rw [hat] at hnx2
         generalize p.nodes[U[i].toNat] = x at hy hnx2
         generalize accV p.nodes M (U.take i) = M1 at hlen hnx2
         have htk := ym (varC false) M1
         have hsn := zdb M1 ⟨x.name, 0, U[i]⟩
         have hb1 : M1.length + 1 <= 140737488355328 := by omega
         have hb2 : (M1.length + 1) * 32 <= 140737488355328 := by omega
         simp only [cI, cS] at hsn
         simp +decide only [e, za, vB, vI, zb, za, hpin, go_sem, aD, mU]
         refine Tri.sched ze [(0, true), (2, true), (3, true), (4, true), (1, true), (5, false), (6, false), (7, false), (8, false), (9, false)] zO (by kernel_rfl) (fun C2 hC2 => ?_)
         have hp2 := zP hC2 hpin
         simp +decide only [e, z0, z1, h', zw _ _ h', hy, zg, iN, za, vB, vI, zb, za, hp2, hpin, go_sem, aD, mU]
         cases hkk : x.kind == 13 with
         | false =>
          rw [hkk, if_neg (by decide), List.append_nil] at hnx2
          simp +decide only [hkk, zb, za, hpin, go_sem, aD, mU]
          refine ⟨i + 1, h', by omega, Ent.weak ?_ ?_ ?_ ?_⟩
          all_goals simp +decide only [hnx2]
          all_goals simp +decide [subT, subB, zj, zi, zm, St.get, look, vI, vB, vS, cI, cS, cB, zg, roI, za, w64s (n := U.length) h' (by omega)]
         | true =>
          rw [hkk, if_pos rfl] at hnx2
          simp +decide only [hkk, zb, za, hpin, go_sem, aD, mU]
          refine Tri.sched ze [(0, true), (1, true), (3, true), (4, true), (5, true), (10, true), (11, true), (12, true), (2, true), (6, true), (7, true), (8, true), (9, true), (13, false), (14, false), (15, false), (16, false), (17, false)] zO (by kernel_rfl) (fun C3 hC3 => ?_)
          have hp3 := zP hC3 hpin
          simp +decide only [e, z0, z1, h', zw _ _ h', hy, zg, hkk, hb1, hb2, htk, hsn, iN, za, vB, vI, zb, za, hp3, hpin, go_sem, aD, mU]
          refine ⟨i + 1, h', by omega, Ent.weak ?_ ?_ ?_ ?_⟩
          all_goals simp +decide only [hnx2]
          all_goals simp +decide [subT, subB, zj, zi, zm, St.get, look, vI, vB, vS, cI, cS, cB, zg, roI, za, w64s (n := U.length) h' (by omega)]
       · have hil : i = U.length := by omega
         subst hil
         have e : ((U.length : Int) < (U.length : Int)) = False := by simp
         have e5 : accV p.nodes M U = M ++ xb p.nodes U := rfl
         simp +decide only [e, za, vB, vI, zb, za, hpin, go_sem, aD, mU]
         refine zf ze _ ?_
         simp +decide only [e5, zb, za, hpin, go_sem, aD, mU]
def zcS (s : ByteArray) : List VarD -> Nat -> Int
 | [], _ => -1
 | v :: r, i => if v.name = s then (i : Int) else zcS s r (i + 1)
def Zj (l : List VarD) (s : ByteArray) : Int := zcS s l 0
theorem zbh (s : ByteArray) : ∀ (l : List VarD) (i : Nat), zcS s l i = -1 \/ ((i : Int) <= zcS s l i /\ zcS s l i < (i + l.length : Nat))
 | [], i => Or.inl rfl
 | v :: r, i => by
  unfold zcS
  by_cases h : v.name = s
  · rw [if_pos h]; right; simp; omega
  · rw [if_neg h]
    rcases zbh s r (i + 1) with h1 | h1
    · exact Or.inl h1
    · right; simp only [List.length_cons]; omega
theorem zcw (l : List VarD) (s : ByteArray) (hl : l.length <= 4194304) : zx Tryz.prog 65 [.ro (.imm 96 (rows (varC true) l)), .ro (.sc (.string s))] (fun rs st => rs = [(false, [cI (Zj l s)])]) := by
 refine zp (fn := Tryz.f65) (c := Tryz.f65.body.getD .skip) (res := [.tm 4]) (n := 20) ze (by kernel_rfl) (by rfl) (by kernel_rfl) (by rfl) (by rfl) (by simp [zu]) (fun uf ub C hpin hpin2 hfull => ?_)
 simp only [Tryz.f65, oD]
 refine Tri.step ze ?_
 simp +decide only [zb, za, hpin, go_sem, aD, mU]
 refine Tri.step ze ?_
 simp +decide only [zb, za, hpin, go_sem, aD, mU]
 refine Tri.loop (ι := Nat) (fun i => i <= l.length /\ Zj l s = zcS s (l.drop i) i) (fun i => ⟨20, [(1, vS s), (7, .imm 96 (rows (varC true) l)), (8, vI l.length), (9, vI i)], []⟩) (fun i => l.length - i) 0 ⟨by simp, rfl⟩ ?_ ?_
 · refine Ent.weak ?_ ?_ ?_ ?_ <;> simp +decide [subT, subB, zj, zi, zm, St.get, look, vI, vB, vS, cI, cS, cB, zg, roI]
 · rintro i ⟨hi, hq⟩
   refine zf ze _ ?_
   by_cases h' : i < l.length
   · have e : ((i : Int) < (l.length : Int)) = True := by simp [h']
     rw [List.drop_eq_getElem_cons h', zcS] at hq
     simp +decide only [e, h', zk _ _ h', varC, iN, vB, vI, vS, zb, za, hpin, go_sem, aD, mU]
     by_cases hs : l[i].name = s
     · have h1 : decide (l[i].name = s) = true := decide_eq_true hs
       rw [if_pos hs] at hq
       simp +decide only [h1, hq, zb, za, hpin, go_sem, aD, mU]
     · have h1 : decide (l[i].name = s) = false := decide_eq_false hs
       rw [if_neg hs] at hq
       simp +decide only [h1, zb, za, hpin, go_sem, aD, mU]
       refine ⟨i + 1, ⟨h', hq⟩, by omega, Ent.weak ?_ ?_ ?_ ?_⟩
       all_goals simp +decide [subT, subB, zj, zi, zm, St.get, look, vI, vB, vS, cI, cS, cB, zg, roI, w64s (n := l.length) h' (by omega)]
   · have hil : i = l.length := by omega
     subst hil
     have e : ((l.length : Int) < (l.length : Int)) = False := by simp
     rw [List.drop_length] at hq
     have hq2 : Zj l s = -1 := hq
     simp +decide only [e, hq2, vB, vI, zb, za, hpin, go_sem, aD, mU]
     refine zf ze _ ?_
     simp +decide only [hq2, zb, za, hpin, go_sem, aD, mU]
theorem zcv (l : List VarD) (s : ByteArray) (hl : l.length <= 4194304) : zx Tryz.prog 56 [.ro (.imm 96 (rows (varC true) l)), .ro (.sc (.string s))] (fun rs st => rs = [(false, [cI (Zj l s)])]) := by
 refine zp (fn := Tryz.f56) (c := Tryz.f56.body.getD .skip) (res := [.tm 4]) (n := 20) ze (by kernel_rfl) (by rfl) (by kernel_rfl) (by rfl) (by rfl) (by simp [zu]) (fun uf ub C hpin hpin2 hfull => ?_)
 simp only [Tryz.f56, oD]
 refine Tri.step ze ?_
 simp +decide only [zb, za, hpin, go_sem, aD, mU]
 refine Tri.step ze ?_
 simp +decide only [zb, za, hpin, go_sem, aD, mU]
 refine Tri.loop (ι := Nat) (fun i => i <= l.length /\ Zj l s = zcS s (l.drop i) i) (fun i => ⟨20, [(0, .imm 96 (rows (varC true) l)), (1, vS s), (5, vI i)], []⟩) (fun i => l.length - i) 0 ⟨by simp, rfl⟩ ?_ ?_
 · refine Ent.weak ?_ ?_ ?_ ?_ <;> simp +decide [subT, subB, zj, zi, zm, St.get, look, vI, vB, vS, cI, cS, cB, zg, roI]
 · rintro i ⟨hi, hq⟩
   refine zf ze _ ?_
   by_cases h' : i < l.length
   · have e : ((i : Int) < (l.length : Int)) = True := by simp [h']
     rw [List.drop_eq_getElem_cons h', zcS] at hq
     simp +decide only [e, h', zk _ _ h', varC, iN, vB, vI, vS, zb, za, hpin, go_sem, aD, mU]
     by_cases hs : l[i].name = s
     · have h1 : decide (l[i].name = s) = true := decide_eq_true hs
       rw [if_pos hs] at hq
       simp +decide only [h1, hq, zb, za, hpin, go_sem, aD, mU]
     · have h1 : decide (l[i].name = s) = false := decide_eq_false hs
       rw [if_neg hs] at hq
       simp +decide only [h1, zb, za, hpin, go_sem, aD, mU]
       refine ⟨i + 1, ⟨h', hq⟩, by omega, Ent.weak ?_ ?_ ?_ ?_⟩
       all_goals simp +decide [subT, subB, zj, zi, zm, St.get, look, vI, vB, vS, cI, cS, cB, zg, roI, w64s (n := l.length) h' (by omega)]
   · have hil : i = l.length := by omega
     subst hil
     have e : ((l.length : Int) < (l.length : Int)) = False := by simp
     rw [List.drop_length] at hq
     have hq2 : Zj l s = -1 := hq
     simp +decide only [e, hq2, vB, vI, zb, za, hpin, go_sem, aD, mU]
     refine zf ze _ ?_
     simp +decide only [hq2, zb, za, hpin, go_sem, aD, mU]
theorem zha (l : List ByteArray) (s : ByteArray) (hl : l.length <= 4194304) : zx Tryz.prog 82 [.ro (.imm 9 (row1 cS l)), .ro (.sc (.string s))] (fun rs st => rs = [(false, [cB (xg l s)])]) := by
 refine zp (fn := Tryz.f82) (c := Tryz.f82.body.getD .skip) (res := [.tm 4]) (n := 17) ze (by kernel_rfl) (by rfl) (by kernel_rfl) (by rfl) (by rfl) (by simp [zu]) (fun uf ub C hpin hpin2 hfull => ?_)
 simp only [Tryz.f82, oD]
 refine Tri.step ze ?_
 simp +decide only [zb, za, hpin, go_sem, aD, mU]
 refine Tri.step ze ?_
 simp +decide only [zb, za, hpin, go_sem, aD, mU]
 refine Tri.loop (ι := Nat) (fun i => i <= l.length /\ xg (l.take i) s = false) (fun i => ⟨17, [(1, vS s), (7, .imm 9 (row1 cS l)), (8, vI l.length), (9, vI i)], []⟩) (fun i => l.length - i) 0 ⟨by simp, rfl⟩ ?_ ?_
 · refine Ent.weak ?_ ?_ ?_ ?_ <;> simp +decide [subT, subB, zj, zi, zm, St.get, look, vI, vB, vS, cI, cS, cB, zg, roI]
 · rintro i ⟨hi, hq⟩
   refine zf ze _ ?_
   by_cases h' : i < l.length
   · have e : ((i : Int) < (l.length : Int)) = True := by simp [h']
     simp +decide only [e, h', zw _ _ h', iN, vB, vI, vS, zb, za, hpin, go_sem, aD, mU]
     cases h1 : decide (l[i] = s) with
     | true =>
      have ht := zaI h' h1
      simp +decide only [h1, ht, zb, za, hpin, go_sem, aD, mU]
     | false =>
      simp +decide only [h1, zb, za, hpin, go_sem, aD, mU]
      refine ⟨i + 1, ⟨h', by rw [zaJ h', hq, h1]; rfl⟩, by omega, Ent.weak ?_ ?_ ?_ ?_⟩
      all_goals simp +decide [subT, subB, zj, zi, zm, St.get, look, vI, vB, vS, cI, cS, cB, zg, roI, w64s (n := l.length) h' (by omega)]
   · have hil : i = l.length := by omega
     subst hil
     have e : ((l.length : Int) < (l.length : Int)) = False := by simp
     rw [List.take_length] at hq
     simp +decide only [e, hq, vB, vI, zb, za, hpin, go_sem, aD, mU]
     refine zf ze _ ?_
     simp +decide only [hq, zb, za, hpin, go_sem, aD, mU]
theorem zcD (l : List ByteArray) (s : ByteArray) (hl : l.length <= 4194304) : zx Tryz.prog 197 [.ro (.imm 9 (row1 cS l)), .ro (.sc (.string s))] (fun rs st => rs = [(false, [cB (xg l s)])]) := by
 refine zp (fn := Tryz.f197) (c := Tryz.f197.body.getD .skip) (res := [.tm 4]) (n := 18) ze (by kernel_rfl) (by rfl) (by kernel_rfl) (by rfl) (by rfl) (by simp [zu]) (fun uf ub C hpin hpin2 hfull => ?_)
 simp only [Tryz.f197, oD]
 refine Tri.step ze ?_
 simp +decide only [zb, za, hpin, go_sem, aD, mU]
 refine Tri.step ze ?_
 simp +decide only [zb, za, hpin, go_sem, aD, mU]
 refine Tri.loop (ι := Nat) (fun i => i <= l.length /\ xg (l.take i) s = false) (fun i => ⟨18, [(0, .imm 9 (row1 cS l)), (1, vS s), (5, vI i)], []⟩) (fun i => l.length - i) 0 ⟨by simp, rfl⟩ ?_ ?_
 · refine Ent.weak ?_ ?_ ?_ ?_ <;> simp +decide [subT, subB, zj, zi, zm, St.get, look, vI, vB, vS, cI, cS, cB, zg, roI]
 · rintro i ⟨hi, hq⟩
   refine zf ze _ ?_
   by_cases h' : i < l.length
   · have e : ((i : Int) < (l.length : Int)) = True := by simp [h']
     simp +decide only [e, h', zw _ _ h', iN, vB, vI, vS, zb, za, hpin, go_sem, aD, mU]
     cases h1 : decide (l[i] = s) with
     | true =>
      have ht := zaI h' h1
      simp +decide only [h1, ht, zb, za, hpin, go_sem, aD, mU]
     | false =>
      simp +decide only [h1, zb, za, hpin, go_sem, aD, mU]
      refine ⟨i + 1, ⟨h', by rw [zaJ h', hq, h1]; rfl⟩, by omega, Ent.weak ?_ ?_ ?_ ?_⟩
      all_goals simp +decide [subT, subB, zj, zi, zm, St.get, look, vI, vB, vS, cI, cS, cB, zg, roI, w64s (n := l.length) h' (by omega)]
   · have hil : i = l.length := by omega
     subst hil
     have e : ((l.length : Int) < (l.length : Int)) = False := by simp
     rw [List.take_length] at hq
     simp +decide only [e, hq, vB, vI, zb, za, hpin, go_sem, aD, mU]
     refine zf ze _ ?_
     simp +decide only [hq, zb, za, hpin, go_sem, aD, mU]
def xT (k : Int) : Bool := inI k 2 6 || (k == 14 || k == 15)
theorem zbW (k : Int) : zx Tryz.prog 156 [.ro (.sc (.int .i64 k))] (fun rs st => rs = [(false, [cB (xT k)])]) := by
 refine zq (fn := Tryz.f156) (c := Tryz.f156.body.getD .skip) (res := [.tm 2]) (n := 13) ze (by kernel_rfl) (by rfl) (by kernel_rfl) (by rfl) (by rfl) (by simp [zu]) (fun C hpin hfull => ?_)
 simp +decide only [Tryz.f156, zb, za, hpin, go_sem, aD, mU]
 refine zd (in' k 2 6) hpin ?_
 unfold xT
 cases h0 : inI k 2 6 with
 | true => simp +decide only [bT, zb, za, hpin, go_sem, aD, mU]
 | false =>
 cases h1 : k == 14 with
 | true => simp +decide only [h1, bT, bO, zb, za, hpin, go_sem, aD, mU]
 | false => simp +decide only [h1, bO, zb, za, hpin, go_sem, aD, mU]
def zkl (p : ProgramD) (fn : Int) (x : NodeD) : Bool := inI (xd p.fns x.name) 0 (fn - 1) && ((fAt p.fns (xd p.fns x.name)).params.length : Int) == (x.kids.length : Int)
def ownB (p : ProgramD) (fn : Int) (nm : List ByteArray) (x : NodeD) : Bool := (!xT x.kind || xg nm x.name) && (!(x.kind == 12) || zkl p fn x)
def zey (nodes : List NodeD) (blk : Bool) (nm : List ByteArray) (kid : Int) : List ByteArray := if blk && (nAt nodes kid).kind == 13 then nm ++ [(nAt nodes kid).name] else nm
def Zx (S : Int -> List ByteArray -> Bool) (nodes : List NodeD) (blk : Bool) : List ByteArray -> List Int -> Bool
 | _, [] => true
 | nm, kid :: r => S kid nm && Zx S nodes blk (zey nodes blk nm kid) r
def zmB (p : ProgramD) (fn : Int) : Nat -> Int -> List ByteArray -> Bool
 | 0, _, _ => true
 | d + 1, k, nm => ownB p fn nm (nAt p.nodes k) && Zx (zmB p fn d) p.nodes ((nAt p.nodes k).kind == 20) nm (nAt p.nodes k).kids
def zZ (p : ProgramD) (fn : Int) (k : Int) (nm : List ByteArray) : Bool := zmB p fn (k.toNat + 1) k nm
theorem zbd {S T : Int -> List ByteArray -> Bool} (nodes : List NodeD) (blk : Bool) : ∀ (l : List Int) (nm : List ByteArray), (∀ kid ∈ l, ∀ nm, S kid nm = T kid nm) -> Zx S nodes blk nm l = Zx T nodes blk nm l
 | [], _, _ => rfl
 | kid :: r, nm, h => by
  unfold Zx
  rw [h kid List.mem_cons_self, zbd nodes blk r _ (fun k hk => h k (List.mem_cons_of_mem _ hk))]
theorem zlt {p : ProgramD} (hD : Deep p.nodes) (fn : Int) : ∀ (d n : Nat) (nm : List ByteArray), n < p.nodes.length -> n < d -> zmB p fn d n nm = zZ p fn n nm := by
 intro d
 induction d using Nat.strongRecOn with
 | ind d ih =>
 intro n nm hn hd
 obtain ⟨e, rfl⟩ : ∃ e, d = e + 1 := ⟨d - 1, by omega⟩
 unfold zZ
 have e2 : ((n : Int).toNat + 1) = n + 1 := by omega
 rw [e2]
 unfold zmB
 rw [zR hn]
 congr 1
 apply zbd
 intro kid hk nm2
 obtain ⟨q0, q1, q2⟩ := hD.kid hn kid hk
 obtain ⟨m, rfl⟩ : ∃ m : Nat, kid = m := ⟨kid.toNat, by omega⟩
 have h1 := ih e (by omega) m nm2 (by omega) (by omega)
 by_cases hne : n = e
 · subst hne; rfl
 · have h2 := ih n (by omega) m nm2 (by omega) (by omega)
   rw [h1, h2]
theorem zde {p : ProgramD} (hD : Deep p.nodes) (fn : Int) {n : Nat} (hn : n < p.nodes.length) (nm : List ByteArray) : zZ p fn n nm = (ownB p fn nm p.nodes[n] && Zx (zZ p fn) p.nodes (p.nodes[n].kind == 20) nm p.nodes[n].kids) := by
 have e2 : ((n : Int).toNat + 1) = n + 1 := by omega
 unfold zZ
 rw [e2]
 conv => lhs; unfold zmB
 rw [zR hn]
 congr 1
 apply zbd
 intro kid hk nm2
 obtain ⟨q0, q1, q2⟩ := hD.kid hn kid hk
 obtain ⟨m, rfl⟩ : ∃ m : Nat, kid = m := ⟨kid.toNat, by omega⟩
 exact zlt hD fn n m nm2 (by omega) (by omega)
theorem zcH (nodes : List NodeD) (blk : Bool) (nm : List ByteArray) (kid : Int) : (zey nodes blk nm kid).length <= nm.length + 1 := by
 unfold zey; split <;> simp
theorem zbp (l : List ByteArray) (s : ByteArray) : row1 cS l ++ [[cS s]] = row1 cS (l ++ [s]) := by simp [row1]
theorem zhG (l : List ByteArray) : (row1 cS l).all (fun x => x.all XJ) = true := by simp [row1, cS, XJ]
theorem zeD (fns : List FnD) (j : Nat) : (∃ x, (rows (fnC true) fns).getD j [] = fnC true x) \/ (rows (fnC true) fns).getD j [] = [] := by
 by_cases h : j < fns.length
 · exact Or.inl ⟨fns[j], zk _ _ h⟩
 · right
   simp [List.getD, List.getElem?_eq_none (show (rows (fnC true) fns).length <= j by rw [yt]; omega)]
theorem zls (p : ProgramD) (hD : Deep p.nodes) (f : Nat) (hfl : f < p.fns.length) (hf : p.fns.length <= 1048576) (hn : p.nodes.length <= 1048576) (hk : ∀ x ∈ p.nodes, x.kids.length <= 300) (n : Nat) : n < p.nodes.length -> ∀ nm : List ByteArray, nm.length + 300 * n <= 4194304 ->
 zx Tryz.prog 177 [.ro (zb p), .ro (.sc (.int .i64 f)), .ro (.sc (.int .i64 n)), .ro (.imm 9 (row1 cS nm))] (fun rs st => rs = [(false, [cB (zZ p f n nm)])]) := by
 induction n using Nat.strongRecOn with
 | ind n ih =>
 intro hnl nm hnm
 have hkid := hD.kid hnl
 have hkx := hk p.nodes[n] (lM hnl)
 have hrec : ∀ kid ∈ p.nodes[n].kids, ∀ L : List ByteArray, L.length + 300 * kid.toNat <= 4194304 -> zx Tryz.prog 177 [.ro (zb p), .ro (.sc (.int .i64 f)), .ro (.sc (.int .i64 kid)), .ro (.imm 9 (row1 cS L))] (fun rs st => rs = [(false, [cB (zZ p f kid L)])]) := fun kid hkk L hL => by
  obtain ⟨q0, q1, q2⟩ := hkid kid hkk
  have e : kid = (kid.toNat : Int) := by omega
  have := ih kid.toNat q2 (by omega) L hL
  rw [<- e] at this
  exact this
 have heq := zde hD f hnl nm
 have hx : (rows (zg true) p.nodes).getD n [] = zg true p.nodes[n] := zk _ _ hnl
 generalize zZ p f n nm = R at heq |-
 generalize p.nodes[n] = x at hkid hkx hrec heq hx
 have hc1 : ((n : Int) < (p.nodes.length : Int)) = True := eq_true (by omega)
 have wf : IntKind.i64.wrap ((f : Int) - 1) = (f : Int) - 1 := w64 (by omega) (by omega)
 have hha := zha nm x.name (by omega)
 have hfa := Ym p x.name hf
 simp only [zb] at hfa hrec
 unfold ownB at heq
 refine zp (fn := Tryz.f177) (c := Tryz.f177.body.getD .skip) (res := [.tm 8]) (n := 91) ze (by kernel_rfl) (by rfl) (by kernel_rfl) (by rfl) (by rfl) (by simp [zu]) (fun uf ub C hpin hpin2 hfull => ?_)
 simp only [Tryz.f177, oD]
 refine Tri.step ze ?_
 simp +decide only [zb, za, hpin, go_sem, aD, mU]
 refine Tri.ent ?_ (Ent.frb hfull 4)
 refine Tri.step ze ?_
 simp +decide only [hc1, hx, zg, iN, zb, za, hpin, go_sem, aD, mU]
 refine Tri.ent ?_ (Ent.frb hfull 9)
 cases hu : xT x.kind && !xg nm x.name with
 | true =>
  obtain ⟨hu1, hu2⟩ := Bool.and_eq_true_iff.1 hu
  have hu3 : xg nm x.name = false := by simpa using hu2
  have hRf : R = false := by rw [heq, hu1, hu3]; rfl
  refine Tri.step ze ?_
  simp +decide only [zb, za, hpin, go_sem, aD, mU]
  refine zd (zbW x.kind) hpin ?_
  simp +decide only [hu1, zb, za, hpin, go_sem, aD, mU]
  refine zd hha hpin ?_
  simp +decide only [hu3, hRf, zb, za, hpin, go_sem, aD, mU]
 | false =>
 have hown : (!xT x.kind || xg nm x.name) = true := by
  cases h1 : xT x.kind <;> cases h2 : xg nm x.name <;> simp [h1, h2] at hu |-
 rw [hown, Bool.true_and] at heq
 refine Tri.stop ze ⟨91, [(1, vI f), (3, .imm 9 (row1 cS nm)), (4, .ip (za true p) 0), (8, vB false), (9, .ip (zg true x) 0)], []⟩ ?_ ?_
 · simp +decide only [zb, za, hpin, go_sem, aD, mU]
   refine zd (zbW x.kind) hpin ?_
   cases hu1 : xT x.kind with
   | false => simp +decide only [zb, za, hpin, go_sem, aD, mU]; refine Ent.weak ?_ ?_ ?_ ?_ <;> simp +decide [subT, subB, zj, zi, zm, St.get, look, vI, vB, vS, cI, cS, cB, zg, roI, za]
   | true =>
    have hu3 : xg nm x.name = true := by simpa [hu1] using hown
    simp +decide only [zb, za, hpin, go_sem, aD, mU]
    refine zd hha hpin ?_
    simp +decide only [hu3, zb, za, hpin, go_sem, aD, mU]; refine Ent.weak ?_ ?_ ?_ ?_ <;> simp +decide [subT, subB, zj, zi, zm, St.get, look, vI, vB, vS, cI, cS, cB, zg, roI, za]
 have hcall : ∀ b, zkl p f x = b -> x.kind == 12 -> R = (b && Zx (zZ p ↑f) p.nodes (x.kind == 20) nm x.kids) := fun b hb h => by rw [heq, hb, h]; rfl
 have hncall : (x.kind == 12) = false -> R = Zx (zZ p ↑f) p.nodes (x.kind == 20) nm x.kids := fun h => by rw [heq, h]; rfl
 have hbr : ((x.kind == 12) = true /\ zkl p f x = false) \/ ((x.kind == 12) = false \/ zkl p f x = true) := by
  cases x.kind == 12 <;> cases zkl p f x <;> simp
 unfold zkl at hcall hbr
 rcases hbr with ⟨h12, hcb⟩ | hbr
 · have hRf := hcall _ hcb h12
   rw [Bool.false_and] at hRf
   refine Tri.step ze ?_
   simp +decide only [h12, zg, za, vB, vI, zb, za, hpin, go_sem, aD, mU]
   refine zd hfa hpin ?_
   generalize xd p.fns x.name = at_ at hcb |-
   simp +decide only [za, zb, za, hpin, go_sem, aD, mU]
   refine Tri.sched ze [(0, true), (1, false), (2, false), (3, false), (4, false), (5, false), (6, true), (8, true), (13, true), (7, true), (9, true), (10, true), (11, true), (12, true), (14, false), (15, false), (16, false), (17, false)] zO (by kernel_rfl) (fun C2 hC2 => ?_)
   have hp2 := zP hC2 hpin
   simp +decide only [wf, za, zb, za, hp2, go_sem, aD, mU]
   refine zd (in' at_ 0 (f - 1)) hp2 ?_
   cases g0 : inI at_ 0 (f - 1) with
   | false =>
    rcases zeD p.fns at_.toNat with ⟨y, hy⟩ | hy
    · simp +decide only [hy, hRf, fnC, zb, za, hp2, hpin, go_sem, aD, mU]
    · simp +decide only [hy, hRf, zb, za, hp2, hpin, go_sem, aD, mU]
   | true =>
    have hr := zy g0
    rw [g0, Bool.true_and] at hcb
    obtain ⟨m, rfl⟩ : ∃ m : Nat, at_ = m := ⟨at_.toNat, by omega⟩
    have hml : m < p.fns.length := by omega
    have hy : (rows (fnC true) p.fns).getD m [] = fnC true p.fns[m] := zk _ _ hml
    have hc2 : ((m : Int) < (p.fns.length : Int)) = True := eq_true (by omega)
    rw [yS hml] at hcb
    generalize p.fns[m] = y at hy hcb
    simp +decide only [hy, hc2, hcb, hRf, fnC, bne, iN, zb, za, hp2, hpin, go_sem, aD, mU]
 have heq2 : R = Zx (zZ p ↑f) p.nodes (x.kind == 20) nm x.kids := by
  cases h12 : x.kind == 12 with
  | false => exact hncall h12
  | true =>
   rcases hbr with h | h
   · rw [h12] at h; cases h
   · have := hcall _ h h12
     rw [this, Bool.true_and]
 refine Tri.stop ze ⟨91, [(1, vI f), (3, .imm 9 (row1 cS nm)), (4, .ip (za true p) 0), (8, vB false), (9, .ip (zg true x) 0)], []⟩ ?_ ?_
 · cases h12 : x.kind == 12 with
   | false => simp +decide only [h12, zg, za, vB, vI, zb, za, hpin, go_sem, aD, mU]; refine Ent.weak ?_ ?_ ?_ ?_ <;> simp +decide [subT, subB, zj, zi, zm, St.get, look, vI, vB, vS, cI, cS, cB, zg, roI, za]
   | true =>
    have hcb := hbr.resolve_left (by rw [h12]; decide)
    simp +decide only [h12, zg, za, vB, vI, zb, za, hpin, go_sem, aD, mU]
    refine zd hfa hpin ?_
    generalize xd p.fns x.name = at_ at hcb |-
    simp +decide only [za, zb, za, hpin, go_sem, aD, mU]
    refine Tri.sched ze [(0, true), (1, false), (2, false), (3, false), (4, false), (5, false), (6, true), (8, true), (13, true), (7, true), (9, true), (10, true), (11, true), (12, true), (14, false), (15, false), (16, false), (17, false)] zO (by kernel_rfl) (fun C2 hC2 => ?_)
    have hp2 := zP hC2 hpin
    simp +decide only [wf, za, zb, za, hp2, go_sem, aD, mU]
    refine zd (in' at_ 0 (f - 1)) hp2 ?_
    obtain ⟨g0, hcb⟩ := Bool.and_eq_true_iff.1 hcb
    have hr := zy g0
    rw [g0]
    obtain ⟨m, rfl⟩ : ∃ m : Nat, at_ = m := ⟨at_.toNat, by omega⟩
    have hml : m < p.fns.length := by omega
    have hy : (rows (fnC true) p.fns).getD m [] = fnC true p.fns[m] := zk _ _ hml
    have hc2 : ((m : Int) < (p.fns.length : Int)) = True := eq_true (by omega)
    rw [yS hml] at hcb
    generalize p.fns[m] = y at hy hcb
    simp +decide only [hy, hc2, hcb, fnC, bne, iN, zb, za, hp2, hpin, go_sem, aD, mU]
    refine Ent.weak ?_ ?_ ?_ ?_ <;> simp +decide [subT, subB, zj, zi, zm, St.get, look, vI, vB, vS, cI, cS, cB, zg, roI, za]
 refine Tri.step ze ?_
 have hfr := zhG nm
 have hb3 : nm.length <= 140737488355328 := by omega
 have hb4 : nm.length * 16 <= 140737488355328 := by omega
 simp +decide only [hfr, hb3, hb4, zg, za, vB, vI, zb, za, hpin, go_sem, aD, mU]
 refine Tri.step ze ?_
 simp +decide only [zb, za, hpin, go_sem, aD, mU]
 refine Tri.loop (ι := Nat × List ByteArray) (fun q => q.1 <= x.kids.length /\ q.2.length <= nm.length + q.1 /\ R = Zx (zZ p f) p.nodes (x.kind == 20) q.2 (x.kids.drop q.1)) (fun q => ⟨91, [(1, vI f), (4, .ip (za true p) 0), (8, vB false), (9, .ip (zg true x) 0), (11, .ref 11 [] q.2.length), (57, roI x.kids), (58, vI x.kids.length), (59, vI q.1)], [(11, .row 9 (row1 cS q.2))]⟩) (fun q => x.kids.length - q.1) (0, nm) ⟨by simp, by simp, heq2⟩ ?_ ?_
 · refine Ent.weak ?_ ?_ ?_ ?_ <;> simp +decide [subT, subB, zj, zi, zm, St.get, look, vI, vB, vS, cI, cS, cB, zg, roI, za]
 · rintro ⟨i, L⟩ ⟨hi, hLl, hR⟩
   simp only at hi hLl hR |-
   refine zf ze _ ?_
   by_cases h' : i < x.kids.length
   · have e : ((i : Int) < (x.kids.length : Int)) = True := by simp [h']
     rw [List.drop_eq_getElem_cons h', Zx] at hR
     have hmem := lM h'
     obtain ⟨q0, q1, q2⟩ := hkid x.kids[i] hmem
     have hrs := hrec x.kids[i] hmem L (by omega)
     have htk := yj cS L
     have hkl : x.kids[i].toNat < p.nodes.length := by omega
     have z0 : (0 <= x.kids[i]) = True := eq_true q0
     have z1 : (x.kids[i] < (p.nodes.length : Int)) = True := eq_true (by omega)
     have hy : (rows (zg true) p.nodes).getD x.kids[i].toNat [] = zg true p.nodes[x.kids[i].toNat] := zk _ _ hkl
     have hgl := zcH p.nodes (x.kind == 20) L x.kids[i]
     have hgr : zey p.nodes (x.kind == 20) L x.kids[i] = if (x.kind == 20) && p.nodes[x.kids[i].toNat].kind == 13 then L ++ [p.nodes[x.kids[i].toNat].name] else L := by unfold zey; rw [xE hkl]
     rw [hgr] at hR hgl
     generalize p.nodes[x.kids[i].toNat] = y at hy hgr hR hgl
     simp +decide only [e, h', zw _ _ h', htk, iN, zg, za, vB, vI, zb, za, hpin, go_sem, aD, mU]
     refine zd hrs hpin ?_
     cases hs : zZ p f x.kids[i] L with
     | false =>
      rw [hs, Bool.false_and] at hR
      simp +decide only [hR, htk, zb, za, hpin, go_sem, aD, mU]
     | true =>
      rw [hs, Bool.true_and] at hR
      cases h20 : x.kind == 20 with
      | false =>
       rw [h20, Bool.false_and, if_neg (by decide)] at hR
       rcases Xs p.nodes x.kids[i].toNat with ⟨yy, hyy⟩ | hyy
       · simp +decide only [h20, hy, zg, htk, zb, za, hpin, go_sem, aD, mU]
         refine ⟨(i + 1, L), ⟨h', by simp only; omega, hR⟩, by simp only; omega, Ent.weak ?_ ?_ ?_ ?_⟩
         all_goals simp +decide [subT, subB, zj, zi, zm, St.get, look, vI, vB, vS, cI, cS, cB, zg, roI, za, htk, w64s (n := x.kids.length) h' (by omega)]
       · rw [hy] at hyy; simp [zg] at hyy
      | true =>
       rw [h20, Bool.true_and] at hR
       cases h13 : y.kind == 13 with
       | false =>
        rw [h13, if_neg (by decide)] at hR
        simp +decide only [h20, h13, z0, z1, hy, zg, htk, zb, za, hpin, go_sem, aD, mU]
        refine ⟨(i + 1, L), ⟨h', by simp only; omega, hR⟩, by simp only; omega, Ent.weak ?_ ?_ ?_ ?_⟩
        all_goals simp +decide [subT, subB, zj, zi, zm, St.get, look, vI, vB, vS, cI, cS, cB, zg, roI, za, htk, w64s (n := x.kids.length) h' (by omega)]
       | true =>
        rw [h13, if_pos rfl] at hR
        have hsn := zbp L y.name
        simp only [cS] at hsn
        have hb1 : L.length + 1 <= 140737488355328 := by omega
        have hb2 : (L.length + 1) * 16 <= 140737488355328 := by omega
        simp +decide only [h20, h13, z0, z1, hy, zg, htk, hb1, hb2, hsn, zb, za, hpin, go_sem, aD, mU]
        refine ⟨(i + 1, L ++ [y.name]), ⟨h', by simp; omega, hR⟩, by simp only; omega, Ent.weak ?_ ?_ ?_ ?_⟩
        all_goals simp +decide [subT, subB, zj, zi, zm, St.get, look, vI, vB, vS, cI, cS, cB, zg, roI, za, htk, w64s (n := x.kids.length) h' (by omega)]
   · have hil : i = x.kids.length := by omega
     subst hil
     have e : ((x.kids.length : Int) < (x.kids.length : Int)) = False := by simp
     rw [List.drop_length] at hR
     have hRt : R = true := hR
     simp +decide only [e, hRt, za, vB, vI, zb, za, hpin, go_sem, aD, mU]
     refine zf ze _ ?_
     simp +decide only [zb, za, hpin, go_sem, aD, mU]
def vr0 : VarD := ⟨⟨#[]⟩, 0, 0⟩
def zgE (l : List VarD) (i : Nat) : Bool := Zj l (l.getD i vr0).name == (i : Int)
noncomputable def zeh (p : ProgramD) (fn : Int) : Bool := zL (zgE (YL p fn)) (YL p fn).length
def parN (l : List ParamD) : List ByteArray := l.map (fun x => x.name)
def ZN (nodes : List NodeD) (nm : List ByteArray) (l : List Int) : List ByteArray := l.foldl (zey nodes true) nm
noncomputable def xM (p : ProgramD) (i : Nat) : Bool := zeh p i && (zZ p i (fAt p.fns i).body (parN (fAt p.fns i).params) && (decide ((fAt p.fns i).ret < 0) || zZ p i (fAt p.fns i).ret (ZN p.nodes (parN (fAt p.fns i).params) (nAt p.nodes (fAt p.fns i).body).kids)))
noncomputable def yv (p : ProgramD) : Bool := Zz p && zL (xM p) p.fns.length
theorem Zb (p : ProgramD) (fn : Int) (hpl : ∀ f ∈ p.fns, f.params.length <= 1048576) (hn : p.nodes.length <= 1048576) : (YL p fn).length <= 2097152 := by
 unfold YL
 split
 · rename_i h0
   have hr := zy h0
   obtain ⟨f, rfl⟩ : ∃ f : Nat, fn = f := ⟨fn.toNat, by omega⟩
   have hfl : f < p.fns.length := by omega
   rw [yS hfl, List.length_append, Zv]
   have h1 := hpl p.fns[f] (lM hfl)
   have h2 := zbb p.nodes (zI p.nodes p.fns[f].body)
   have h3 := yB p.nodes p.fns[f].body
   omega
 · simp
theorem Deep.few {nodes : List NodeD} (h : Deep nodes) : ∀ x ∈ nodes, x.kids.length <= 12 := fun x hx => by
 obtain ⟨i, hi, rfl⟩ := List.getElem_of_mem hx
 have hb := XN nodes i (h.deep i hi)
 simp only [YI, Bool.and_eq_true, zby] at hb
 obtain ⟨_, _, hs, _⟩ := hb
 rw [zR hi] at hs
 have h1 := zy hs
 have h2 := znV nodes[i].kind
 omega
structure Right (p : ProgramD) : Prop where
 few : p.nodes.length <= 300
 fns : p.fns.length <= 8
 deep : Deep p.nodes
 fn : ∀ i (h : i < p.fns.length), XV p p.fns[i] = true
theorem yh {p : ProgramD} (h : Zz p = true) : Right p := by
 simp only [Zz, Bool.and_eq_true] at h
 obtain ⟨h0, h1, h2, h3, h4⟩ := h
 have hr0 := zy h0
 have hr1 := zy h1
 refine ⟨by omega, by omega, zkh (by simpa using h2), fun i hi => ?_⟩
 have := xy.1 h3 i hi
 unfold xq at this
 rw [yS hi] at this
 exact (Bool.and_eq_true_iff.1 this).1
theorem zeF {p : ProgramD} {f : FnD} (h : XV p f = true) : f.params.length <= 3 := by
 simp only [XV, Bool.and_eq_true] at h
 have := of_decide_eq_true h.2.1
 omega
theorem zig {l : List ParamD} {i : Nat} (h : i < l.length) : row1 cS (parN (l.take i)) ++ [[cS l[i].name]] = row1 cS (parN (l.take (i + 1))) := by
 unfold parN
 rw [List.take_succ_eq_append_getElem h, List.map_append, zbp]; rfl
theorem xA (l : List ParamD) : (parN l).length = l.length := by simp [parN]
theorem zfQ (nodes : List NodeD) (nm : List ByteArray) {l : List Int} {i : Nat} (h : i < l.length) : ZN nodes nm (l.take (i + 1)) = zey nodes true (ZN nodes nm (l.take i)) l[i] := by
 unfold ZN
 rw [List.take_succ_eq_append_getElem h, List.foldl_append]; rfl
theorem YB (nodes : List NodeD) : ∀ (l : List Int) (nm : List ByteArray), (ZN nodes nm l).length <= nm.length + l.length
 | [], nm => by simp [ZN]
 | k :: r, nm => by
  have h1 := YB nodes r (zey nodes true nm k)
  have h2 := zcH nodes true nm k
  unfold ZN at h1 |-
  rw [List.foldl_cons, List.length_cons]; omega
theorem zgJ (p : ProgramD) (fn : Int) (hf : p.fns.length <= 1048576) (hn : p.nodes.length <= 1048576) (hk : ∀ x ∈ p.nodes, x.kids.length <= 1048576) (hpl : ∀ f ∈ p.fns, f.params.length <= 1048576) : zx Tryz.prog 176 [.ro (zb p), .ro (.sc (.int .i64 fn))] (fun rs st => rs = [(false, [cB (zeh p fn)])]) := by
 have hvs := zdq p fn hf hn hk hpl
 have hvl := Zb p fn hpl hn
 unfold zeh
 generalize YL p fn = l at hvs hvl |-
 have hva := fun s => zcw l s (by omega)
 simp only [zb] at hvs
 refine zp (fn := Tryz.f176) (c := Tryz.f176.body.getD .skip) (res := [.tm 4]) (n := 25) ze (by kernel_rfl) (by rfl) (by kernel_rfl) (by rfl) (by rfl) (by simp [zu]) (fun uf ub C hpin hpin2 hfull => ?_)
 simp only [Tryz.f176, oD]
 refine Tri.step ze ?_
 simp +decide only [zb, za, hpin, go_sem, aD, mU]
 refine Tri.ent ?_ (Ent.frb hfull 2)
 refine Tri.step ze ?_
 simp +decide only [zb, za, hpin, go_sem, aD, mU]
 refine zd hvs hpin ?_
 simp +decide only [zb, za, hpin, go_sem, aD, mU]
 refine Tri.ent ?_ (Ent.frz hfull 5)
 refine Tri.step ze ?_
 simp +decide only [zb, za, hpin, go_sem, aD, mU]
 refine Tri.loop (ι := Nat) (fun i => i <= l.length /\ zL (zgE l) i = true) (fun i => ⟨25, [(4, vB false), (5, .imm 96 (rows (varC true) l)), (11, .imm 96 (rows (varC true) l)), (12, vI l.length), (13, vI i)], []⟩) (fun i => l.length - i) 0 ⟨by simp, rfl⟩ ?_ ?_
 · refine Ent.weak ?_ ?_ ?_ ?_ <;> simp +decide [subT, subB, zj, zi, zm, St.get, look, vI, vB, vS, cI, cS, cB, zg, roI]
 · rintro i ⟨hi, hq⟩
   refine zf ze _ ?_
   by_cases h' : i < l.length
   · have e : ((i : Int) < (l.length : Int)) = True := by simp [h']
     have hov : zgE l i = (Zj l l[i].name == (i : Int)) := by simp [zgE, List.getD, h']
     simp +decide only [e, h', zk _ _ h', varC, iN, vB, vI, zb, za, hpin, go_sem, aD, mU]
     refine zd (hva l[i].name) hpin ?_
     cases hz : Zj l l[i].name == (i : Int) with
     | false =>
      have hff : zL (zgE l) l.length = false := zB h' (by rw [hov, hz])
      simp +decide only [hz, hff, bne, zb, za, hpin, go_sem, aD, mU]
     | true =>
      simp +decide only [hz, bne, zb, za, hpin, go_sem, aD, mU]
      refine ⟨i + 1, ⟨h', by rw [zQ, hq, hov, hz]; rfl⟩, by omega, Ent.weak ?_ ?_ ?_ ?_⟩
      all_goals simp +decide [subT, subB, zj, zi, zm, St.get, look, vI, vB, vS, cI, cS, cB, zg, roI, w64s (n := l.length) h' (by omega)]
   · have hil : i = l.length := by omega
     subst hil
     have e : ((l.length : Int) < (l.length : Int)) = False := by simp
     simp +decide only [e, vB, vI, zb, za, hpin, go_sem, aD, mU]
     refine zf ze _ ?_
     simp +decide only [hq, zb, za, hpin, go_sem, aD, mU]
theorem Zw (p : ProgramD) (hf : p.fns.length <= 1048576) (hn : p.nodes.length <= 1048576) (hk : ∀ x ∈ p.nodes, x.kids.length <= 1048576) (hpl : ∀ f ∈ p.fns, f.params.length <= 1048576) : zx Tryz.prog 116 [.ro (zb p)] (fun rs st => rs = [(false, [cB (yv p)])]) := by
 have hps := zfk p hf hn hk hpl
 have hns := fun fn => zgJ p fn hf hn hk hpl
 simp only [zb] at hps hns
 unfold yv
 refine zp (fn := Tryz.f116) (c := Tryz.f116.body.getD .skip) (res := [.tm 2]) (n := 87) ze (by kernel_rfl) (by rfl) (by kernel_rfl) (by rfl) (by rfl) (by simp [zu]) (fun uf ub C hpin hpin2 hfull => ?_)
 simp only [Tryz.f116, oD]
 refine Tri.step ze ?_
 simp +decide only [zb, za, hpin, go_sem, aD, mU]
 refine Tri.ent ?_ (Ent.frb hfull 1)
 refine Tri.step ze ?_
 simp +decide only [zb, za, hpin, go_sem, aD, mU]
 refine zd hps hpin ?_
 cases h0 : Zz p with
 | false => simp +decide only [zb, za, hpin, go_sem, aD, mU]
 | true =>
 have hG := yh h0
 simp +decide only [zb, za, hpin, go_sem, aD, mU]
 refine Tri.step ze ?_
 simp +decide only [zb, za, hpin, go_sem, aD, mU]
 refine Tri.loop (ι := Nat) (fun i => i <= p.fns.length /\ zL (xM p) i = true) (fun i => ⟨87, [(1, .ip (za true p) 0), (2, vB false), (14, .imm 104 (rows (fnC true) p.fns)), (15, vI p.fns.length), (16, vI i)], []⟩) (fun i => p.fns.length - i) 0 ⟨by simp, rfl⟩ ?_ ?_
 · refine Ent.weak ?_ ?_ ?_ ?_ <;> simp +decide [subT, subB, zj, zi, zm, St.get, look, vI, vB, vS, cI, cS, cB, zg, roI, za]
 · rintro i ⟨hi, hq⟩
   refine zf ze _ ?_
   by_cases h' : i < p.fns.length
   · have e : ((i : Int) < (p.fns.length : Int)) = True := by simp [h']
     have hx : (rows (fnC true) p.fns).getD i [] = fnC true p.fns[i] := zk _ _ h'
     have hok := hG.fn i h'
     have hfe : xM p i = (zeh p i && (zZ p i p.fns[i].body (parN p.fns[i].params) && (decide (p.fns[i].ret < 0) || zZ p i p.fns[i].ret (ZN p.nodes (parN p.fns[i].params) (nAt p.nodes p.fns[i].body).kids)))) := by unfold xM; rw [yS h']
     have hplx := hpl p.fns[i] (lM h')
     have hp3 := zeF hok
     obtain ⟨⟨b0, b1⟩, hret⟩ := ZY hok
     generalize p.fns[i] = g at hx hok hfe hplx hp3 b0 b1 hret
     simp +decide only [e, h', hx, fnC, iN, za, vB, vI, zb, za, hpin, go_sem, aD, mU]
     refine zd (hns i) hpin ?_
     cases g0 : zeh p i with
     | false =>
      have hff : zL (xM p) p.fns.length = false := zB h' (by rw [hfe, g0]; rfl)
      simp +decide only [hff, zb, za, hpin, go_sem, aD, mU]
     | true =>
     rw [g0, Bool.true_and] at hfe
     simp +decide only [zb, za, hpin, go_sem, aD, mU]
     refine Tri.loop (ι := Nat) (fun j => j <= g.params.length) (fun j => ⟨87, [(1, .ip (za true p) 0), (2, vB false), (3, vI i), (4, .bp 4 0), (14, .imm 104 (rows (fnC true) p.fns)), (15, vI p.fns.length), (16, vI i), (5, .ref 5 [] (parN (g.params.take j)).length), (26, .imm 107 (rows (zn true) g.params)), (27, vI g.params.length), (28, vI j)], [(5, .row 9 (row1 cS (parN (g.params.take j)))), (4, .box (fnC true g))]⟩) (fun j => g.params.length - j) 0 (by simp) ?_ ?_
     · refine Ent.weak ?_ ?_ ?_ ?_ <;> simp +decide [subT, subB, zj, zi, zm, St.get, look, vI, vB, vS, cI, cS, cB, zg, roI, za, fnC, parN, row1]
     · rintro j hj
       refine zf ze _ ?_
       by_cases hj' : j < g.params.length
       · have e2 : ((j : Int) < (g.params.length : Int)) = True := by simp [hj']
         have hy : (rows (zn true) g.params).getD j [] = zn true g.params[j] := zk _ _ hj'
         have hsn := zig hj'
         have hll : (parN (g.params.take j)).length <= 3 := by rw [xA, List.length_take]; omega
         have hl2 : (parN (g.params.take (j + 1))).length = (parN (g.params.take j)).length + 1 := by rw [xA, xA, List.length_take, List.length_take]; omega
         have htk := yj cS (parN (g.params.take j))
         have hb1 : (parN (g.params.take j)).length + 1 <= 140737488355328 := by omega
         have hb2 : ((parN (g.params.take j)).length + 1) * 16 <= 140737488355328 := by omega
         simp only [cS] at hsn
         simp +decide only [e2, hy, zn, hb1, hb2, htk, hsn, iN, za, fnC, vB, vI, zb, za, hpin, go_sem, aD, mU]
         refine ⟨j + 1, hj', by omega, Ent.weak ?_ ?_ ?_ ?_⟩
         all_goals simp +decide [subT, subB, zj, zi, zm, St.get, look, vI, vB, vS, cI, cS, cB, zg, roI, za, fnC, hl2, w64s (n := g.params.length) hj' (by omega)]
       · have hjl : j = g.params.length := by omega
         subst hjl
         have e2 : ((g.params.length : Int) < (g.params.length : Int)) = False := by simp
         have hnl : (parN g.params).length <= 3 := by rw [xA]; omega
         obtain ⟨b, hbb⟩ : ∃ b : Nat, g.body = b := ⟨g.body.toNat, by omega⟩
         have hbl : b < p.nodes.length := by omega
         have hxb : (rows (zg true) p.nodes).getD b [] = zg true p.nodes[b] := zk _ _ hbl
         have hcb : ((b : Int) < (p.nodes.length : Int)) = True := eq_true (by omega)
         have hk3 : ∀ x ∈ p.nodes, x.kids.length <= 300 := fun x hx => by have := hG.deep.few x hx; omega
         have hkf := hG.deep.few p.nodes[b] (lM hbl)
         have hkid := hG.deep.kid hbl
         have hfew := hG.few
         have hsee : ∀ (n : Nat), n < p.nodes.length -> ∀ nm : List ByteArray, nm.length <= 1000 -> _ := fun n hnl nm hnm => zls p hG.deep i h' hf hn hk3 n hnl nm (by omega)
         simp only [zb] at hsee
         rw [hbb, zR hbl] at hfe
         generalize hnm : parN g.params = nm0 at hnl hfe
         have htk := yj cS nm0
         have hs1 := hsee b hbl nm0 (by omega)
         simp +decide only [e2, hnm, hbb, htk, za, fnC, vB, vI, zb, za, hpin, go_sem, aD, mU]
         refine zd hs1 hpin ?_
         cases g1 : zZ p i b nm0 with
         | false =>
          rw [g1, Bool.false_and] at hfe
          have hff : zL (xM p) p.fns.length = false := zB h' hfe
          simp +decide only [hff, htk, zb, za, hpin, go_sem, aD, mU]
         | true =>
         rw [g1, Bool.true_and] at hfe
         generalize p.nodes[b] = x at hxb hkf hkid hfe
         simp +decide only [hcb, hxb, zg, htk, iN, zb, za, hpin, go_sem, aD, mU]
         refine Tri.loop (ι := Nat) (fun k => k <= x.kids.length) (fun k => ⟨87, [(1, .ip (za true p) 0), (2, vB false), (3, vI i), (4, .bp 4 0), (14, .imm 104 (rows (fnC true) p.fns)), (15, vI p.fns.length), (16, vI i), (5, .ref 5 [] (ZN p.nodes nm0 (x.kids.take k)).length), (51, roI x.kids), (52, vI x.kids.length), (53, vI k)], [(5, .row 9 (row1 cS (ZN p.nodes nm0 (x.kids.take k)))), (4, .box (fnC true g))]⟩) (fun k => x.kids.length - k) 0 (by simp) ?_ ?_
         · have e9 : ZN p.nodes nm0 [] = nm0 := rfl
           refine Ent.weak ?_ ?_ ?_ ?_ <;> simp +decide [subT, subB, zj, zi, zm, St.get, look, vI, vB, vS, cI, cS, cB, zg, roI, za, fnC, e9, hbb]
         · rintro k hkk
           refine zf ze _ ?_
           have hgl := YB p.nodes (x.kids.take k) nm0
           rw [List.length_take] at hgl
           by_cases hk' : k < x.kids.length
           · have e3 : ((k : Int) < (x.kids.length : Int)) = True := by simp [hk']
             obtain ⟨q0, q1, q2⟩ := hkid x.kids[k] (lM hk')
             have hkl : x.kids[k].toNat < p.nodes.length := by omega
             have z0 : (0 <= x.kids[k]) = True := eq_true q0
             have z1 : (x.kids[k] < (p.nodes.length : Int)) = True := eq_true (by omega)
             have hy : (rows (zg true) p.nodes).getD x.kids[k].toNat [] = zg true p.nodes[x.kids[k].toNat] := zk _ _ hkl
             have hnx := zfQ p.nodes nm0 hk'
             unfold zey at hnx
             rw [xE hkl, Bool.true_and] at hnx
             generalize p.nodes[x.kids[k].toNat] = y at hy hnx
             generalize hLL : ZN p.nodes nm0 (x.kids.take k) = L at hnx hgl
             have htk2 := yj cS L
             have hsn := zbp L y.name
             simp only [cS] at hsn
             have hb1 : L.length + 1 <= 140737488355328 := by omega
             have hb2 : (L.length + 1) * 16 <= 140737488355328 := by omega
             simp +decide only [e3, z0, z1, hy, zg, zw _ _ hk', iN, za, fnC, vB, vI, zb, za, hpin, go_sem, aD, mU]
             cases h13 : y.kind == 13 with
             | false =>
              rw [h13, if_neg (by decide)] at hnx
              simp +decide only [h13, zb, za, hpin, go_sem, aD, mU]
              refine ⟨k + 1, hk', by omega, Ent.weak ?_ ?_ ?_ ?_⟩
              all_goals simp +decide only [hnx]
              all_goals simp +decide [subT, subB, zj, zi, zm, St.get, look, vI, vB, vS, cI, cS, cB, zg, roI, za, fnC, w64s (n := x.kids.length) hk' (by omega)]
             | true =>
              rw [h13, if_pos rfl] at hnx
              simp +decide only [h13, z0, z1, hy, zg, hb1, hb2, htk2, hsn, zb, za, hpin, go_sem, aD, mU]
              refine ⟨k + 1, hk', by omega, Ent.weak ?_ ?_ ?_ ?_⟩
              all_goals simp +decide only [hnx]
              all_goals simp +decide [subT, subB, zj, zi, zm, St.get, look, vI, vB, vS, cI, cS, cB, zg, roI, za, fnC, w64s (n := x.kids.length) hk' (by omega)]
           · have hkl : k = x.kids.length := by omega
             subst hkl
             have e3 : ((x.kids.length : Int) < (x.kids.length : Int)) = False := by simp
             rw [List.take_length] at *
             generalize ZN p.nodes nm0 x.kids = L at hfe hgl |-
             have htk2 := yj cS L
             simp +decide only [e3, htk2, za, fnC, vB, vI, zb, za, hpin, go_sem, aD, mU]
             rcases hret with hneg | ⟨x0, x1⟩
             · have y0 : (0 <= g.ret) = False := eq_false (by omega)
               have y1 : decide (g.ret < 0) = true := decide_eq_true hneg
               rw [y1, bT] at hfe
               simp +decide only [y0, zb, za, hpin, go_sem, aD, mU]
               refine ⟨i + 1, ⟨h', by rw [zQ, hq, hfe]; rfl⟩, by omega, Ent.weak ?_ ?_ ?_ ?_⟩
               all_goals simp +decide [subT, subB, zj, zi, zm, St.get, look, vI, vB, vS, cI, cS, cB, zg, roI, za, w64s (n := p.fns.length) h' (by omega)]
             · have y0 : (0 <= g.ret) = True := eq_true x0
               have y1 : decide (g.ret < 0) = false := decide_eq_false (by omega)
               rw [y1, bO] at hfe
               obtain ⟨r, hrr⟩ : ∃ r : Nat, g.ret = r := ⟨g.ret.toNat, by omega⟩
               have hrl : r < p.nodes.length := by omega
               have hs2 := hsee r hrl L (by omega)
               rw [hrr] at hfe
               simp +decide only [y0, hrr, htk2, iN, zb, za, hpin, go_sem, aD, mU]
               refine zd hs2 hpin ?_
               cases g2 : zZ p i r L with
               | false =>
                rw [g2] at hfe
                have hff : zL (xM p) p.fns.length = false := zB h' hfe
                simp +decide only [hff, htk2, zb, za, hpin, go_sem, aD, mU]
               | true =>
                rw [g2] at hfe
                simp +decide only [htk2, zb, za, hpin, go_sem, aD, mU]
                refine ⟨i + 1, ⟨h', by rw [zQ, hq, hfe]; rfl⟩, by omega, Ent.weak ?_ ?_ ?_ ?_⟩
                all_goals simp +decide [subT, subB, zj, zi, zm, St.get, look, vI, vB, vS, cI, cS, cB, zg, roI, za, w64s (n := p.fns.length) h' (by omega)]
   · have hil : i = p.fns.length := by omega
     subst hil
     have e : ((p.fns.length : Int) < (p.fns.length : Int)) = False := by simp
     simp +decide only [e, vB, vI, zb, za, hpin, go_sem, aD, mU]
     refine zf ze _ ?_
     simp +decide only [hq, zb, za, hpin, go_sem, aD, mU]
inductive Sch where
 | done
 | one (i : Nat) (t : Bool) (r : Sch)
 | two (i : Nat) (r : Sch) (j : Nat) (s : Sch)
 | three (i : Nat) (r : Sch) (j : Nat) (s : Sch) (k : Nat) (q : Sch)
def zcZ (P : Program) (C : Cx) (ops : Array Oper) (i : Nat) (st : St) (K : St -> Prop) : Prop := match ops[i]? with
 | some o => Zr st o /\ zje P C ops st o K
 | none => False
def XW (P : Program) (C : Cx) (ops : Array Oper) : Sch -> St -> (St -> Prop) -> Prop
 | .done, st, K => K st
 | .one i t r, st, K => match ops[i]? with
  | some o => Zr st o /\ match t with
   | true => (match zlu P ops st o with
    | some (s, v) => s /\ ev (b := ⟨fun st' => XW P C ops r st' K⟩) (ZO st o.dst v)
    | none => False)
   | false => zje P C ops st o (fun st' => XW P C ops r st' K)
  | none => False
 | .two i r j s, st, K => zcZ P C ops i st (fun st' => XW P C ops r st' K) /\ zcZ P C ops j st (fun st' => XW P C ops s st' K)
 | .three i r j s k q, st, K => zcZ P C ops i st (fun st' => XW P C ops r st' K) /\ zcZ P C ops j st (fun st' => XW P C ops s st' K) /\ zcZ P C ops k st (fun st' => XW P C ops q st' K)
def zaK (ops : Array Oper) : Sch -> Array Bool -> Nat -> Bool
 | .done, l, n => (Region.ready .any ops l).isEmpty && n == 0
 | .one i t r, l, n + 1 => (match t with
  | true => (Region.ready .any ops l).contains i && Region.free .any ops l i
  | false => Region.ready .any ops l == [i]) && zaK ops r (l.setIfInBounds i true) n
 | .two i r j s, l, n + 1 => Region.ready .any ops l == [i, j] && (zaK ops r (l.setIfInBounds i true) n && zaK ops s (l.setIfInBounds j true) n)
 | .three i r j s k q, l, n + 1 => Region.ready .any ops l == [i, j, k] && (zaK ops r (l.setIfInBounds i true) n && (zaK ops s (l.setIfInBounds j true) n && zaK ops q (l.setIfInBounds k true) n))
 | _, _, 0 => false
def zoZ (ops : Array Oper) (sch : Sch) : Bool := Region.noSelect ops && zaK ops sch (Array.replicate ops.size false) ops.size
section
variable {P : Program} {w w1 : World} {C : Cx} {X : Nat -> Prop} {gh gh1 : Gh} {st : St} {a : Act} {v : V} {u : Value} {ob : List (Nat × Ob)} {S : Nat -> Prop} {K : St -> Prop}
theorem zfc (hz : xN P) {ops : Array Oper} {Q : Exit -> St -> Prop} {w : World} {gh : Gh} {C0 : Cx} {X0 : Nat -> Prop} {st0 : St} {a0 : Act} (h0 : Rep P C0 X0 st0 a0 w gh) (hns : Region.noSelect ops = true) :
 ∀ (sch : Sch) (l : Array Bool) (n : Nat) {st : St} {a : Act} {w1 : World} {gh1 : Gh}, Rep P (C0.here w gh.S) No st a w1 gh1 -> zaK ops sch l n = true -> XW P (C0.here w gh.S) ops sch st (Q .normal) ->
 wpAnyH P .any ops (fun e a' w' => match e with | .normal => Up P (C0.here w gh.S) (Q .normal) a' w' | _ => False) (fun w' => ∀ k, gh.S k -> w'.heap[k]? = w.heap[k]?) n l a w1 := by
 have stepOf : ∀ (i : Nat) (r : Sch) (l : Array Bool) (n : Nat) {st : St} {a : Act} {w1 : World} {gh1 : Gh}, Rep P (C0.here w gh.S) No st a w1 gh1 ->
  (∀ {st : St} {a : Act} {w1 : World} {gh1 : Gh}, Rep P (C0.here w gh.S) No st a w1 gh1 -> XW P (C0.here w gh.S) ops r st (Q .normal) -> wpAnyH P .any ops (fun e a' w' => match e with | .normal => Up P (C0.here w gh.S) (Q .normal) a' w' | _ => False) (fun w' => ∀ k, gh.S k -> w'.heap[k]? = w.heap[k]?) n (l.setIfInBounds i true) a w1) ->
  zcZ P (C0.here w gh.S) ops i st (fun st' => XW P (C0.here w gh.S) ops r st' (Q .normal)) ->
  wpOp P ops (fun e a' w' => match e with | .normal => Up P (C0.here w gh.S) (Q .normal) a' w' | _ => False) i (fun a' w' => (∀ k, gh.S k -> w'.heap[k]? = w.heap[k]?) /\ wpAnyH P .any ops (fun e a' w' => match e with | .normal => Up P (C0.here w gh.S) (Q .normal) a' w' | _ => False) (fun w' => ∀ k, gh.S k -> w'.heap[k]? = w.heap[k]?) n (l.setIfInBounds i true) a' w') a w1 := fun i r l n st a w1 gh1 h hrec hk => by
  unfold zcZ at hk
  split at hk
  case h_2 => exact hk.elim
  rename_i o ho
  obtain ⟨hdst, hk⟩ := hk
  unfold wpOp
  simp only [ho]
  have hop := YU (Q := fun e a' w' => match e with | .normal => Up P (C0.here w gh.S) (Q .normal) a' w' | _ => False) hz h hdst hk
  have next : ∀ a' w', Up P (C0.here w gh.S) (fun st' => XW P (C0.here w gh.S) ops r st' (Q .normal)) a' w' -> (∀ k, gh.S k -> w'.heap[k]? = w.heap[k]?) /\
   wpAnyH P .any ops (fun e a' w' => match e with | .normal => Up P (C0.here w gh.S) (Q .normal) a' w' | _ => False) (fun w' => ∀ k, gh.S k -> w'.heap[k]? = w.heap[k]?) n (l.setIfInBounds i true) a' w' := fun a' w' ⟨st', gh', hk', h'⟩ =>
   ⟨h0.lent h', hrec h' hk'⟩
  split
  · rename_i hw
    rw [if_pos hw] at hop
    exact Or.inl (Oper.wp_mono next hop)
  · rename_i hw
    rw [if_neg hw] at hop
    exact next _ _ hop
 intro sch
 induction sch with
 | done =>
  intro l n st a w1 gh1 h hb hk
  simp only [zaK, Bool.and_eq_true, List.isEmpty_iff] at hb
  exact wpAnyH_done hb.1 ⟨st, gh1, hk, h⟩ _
 | one i t r ih =>
  intro l n st a w1 gh1 h hb hk
  cases n with
  | zero => simp [zaK] at hb
  | succ n =>
  simp only [zaK, Bool.and_eq_true] at hb
  obtain ⟨hb1, hb2⟩ := hb
  cases t with
  | true =>
   unfold XW at hk
   split at hk
   case h_2 => exact hk.elim
   rename_i o ho
   obtain ⟨hdst, hk⟩ := hk
   simp only at hk hb1
   simp only [Bool.and_eq_true] at hb1
   split at hk
   case h_2 => exact hk.elim
   rename_i s v hp
   obtain ⟨y, hy, hv⟩ := zaV (Sw := fun w' => ∀ k, gh.S k -> w'.heap[k]? = w.heap[k]?) hz h (fun w' hw k hk => by
    have h1 := h.sZ k hk
    exact (hw k h1).trans (h0.lent h k h1).symm) hp hk.1
   exact wpAnyH_take ho hns hb1.2 hb1.1 (fun c a w hq => hq.elim) hy (h0.lent h) (ih _ _ (h.dst (zaQ hdst) hv) hb2 hk.2)
  | false =>
   simp only at hb1
   refine wpAnyH_all (rs := [i]) (by simpa using hb1) (by simp) (fun i' hi' => ?_)
   rw [List.mem_singleton] at hi'
   subst hi'
   refine stepOf i' r l n h (fun h' hk' => ih _ _ h' hb2 hk') ?_
   unfold XW at hk
   unfold zcZ
   split at hk
   · exact hk
   · exact hk.elim
 | two i r j s ih1 ih2 =>
  intro l n st a w1 gh1 h hb hk
  cases n with
  | zero => simp [zaK] at hb
  | succ n =>
  simp only [zaK, Bool.and_eq_true, beq_iff_eq] at hb
  obtain ⟨hb1, hb2, hb3⟩ := hb
  obtain ⟨hk1, hk2⟩ := hk
  refine wpAnyH_all (rs := [i, j]) hb1 (by simp) (fun i' hi' => ?_)
  simp only [List.mem_cons, List.not_mem_nil, or_false] at hi'
  rcases hi' with rfl | rfl
  · exact stepOf _ r l n h (fun h' hk' => ih1 _ _ h' hb2 hk') hk1
  · exact stepOf _ s l n h (fun h' hk' => ih2 _ _ h' hb3 hk') hk2
 | three i r j s k q ih1 ih2 ih3 =>
  intro l n st a w1 gh1 h hb hk
  cases n with
  | zero => simp [zaK] at hb
  | succ n =>
  simp only [zaK, Bool.and_eq_true, beq_iff_eq] at hb
  obtain ⟨hb1, hb2, hb3, hb4⟩ := hb
  obtain ⟨hk1, hk2, hk3⟩ := hk
  refine wpAnyH_all (rs := [i, j, k]) hb1 (by simp) (fun i' hi' => ?_)
  simp only [List.mem_cons, List.not_mem_nil, or_false] at hi'
  rcases hi' with rfl | rfl | rfl
  · exact stepOf _ r l n h (fun h' hk' => ih1 _ _ h' hb2 hk') hk1
  · exact stepOf _ s l n h (fun h' hk' => ih2 _ _ h' hb3 hk') hk2
  · exact stepOf _ q l n h (fun h' hk' => ih3 _ _ h' hb4 hk') hk3
theorem Tri.fork (hz : xN P) {id : Nat} {ops : Array Oper} {Q : Exit -> St -> Prop} (sch : Sch) (hm : P.follows .mixedOrders = true) (hb : zoZ ops sch = true) (hk : ∀ C', C'.pin = C.pin -> XW P C' ops sch st (Q .normal)) : Tri P C st (.region id ops true) Q := fun a w gh hR => by
 simp only [zoZ, Bool.and_eq_true] at hb
 obtain ⟨hb1, hb2⟩ := hb
 have hd := hR.drew
 refine Code.wp_mono (fun e a' w' hq => ?_) (wp_region_held (S := fun w' => ∀ k, gh.S k -> w'.heap[k]? = w.drew.heap[k]?) hm ?_ (Q := fun e a' w' => match e with | .normal => Up P (C.here w.drew gh.S) (Q .normal) a' w' | _ => False))
 · cases e with
   | normal =>
    obtain ⟨st', gh', hk', h'⟩ := hq
    exact ⟨st', gh', hk', hd.back h'⟩
   | _ => exact hq.elim
 · exact zfc hz hd hb1 sch (Array.replicate ops.size false) ops.size hd.here hb2 (Q := Q) (hk _ rfl)
def St.shb (st : St) (o : Nat) : St := match look st.ob o with
 | some (.box cs) => st.swap o (.box (shL cs))
 | _ => st
def Gh.shb (gh : Gh) (o : Nat) : Gh := { gh with S := fun k => gh.S k \/ (gh.F o k /\ k ≠ gh.bb o), F := fun o' k => if o' = o then k = gh.bb o else gh.F o' k }
theorem Ro.own {d : D} (h : Ro P w S (shD d) u) : Ow P w S (shD d) u (fun _ => False) := by
 cases d with
 | dead => exact .dead h.one
 | sc v => simp only [shD] at h |-; cases h with | sc h => exact .sc h
 | row sh e es => simp only [shD] at h |-; exact .shared h
theorem VR.shb (h : VR P w gh st.ob v u) {o : Nat} {cs : List D} (ho : look st.ob o = some (.box cs)) : VR P w (gh.shb o) (st.swap o (.box (shL cs))).ob (zH o v) u := by
 have hne : ∀ o' x, o' ≠ o -> look st.ob o' = some x -> look (st.swap o (.box (shL cs))).ob o' = some x := fun o' x hne hx => by
  simp only [St.swap, look, if_neg hne]; rw [yg, if_neg (fun e => hne e.symm)]; exact hx
 have hself : look (st.swap o (.box (shL cs))).ob o = some (.box (shL cs)) := by simp [St.swap, look]
 induction h with
 | dead => exact .dead
 | und => exact .und
 | sc h => exact .sc h
 | nil => exact .nil
 | imm h => exact .imm (h.mono (fun k hk => Or.inl hk))
 | @ref o' n p y e es A c hx hn hle =>
  by_cases e1 : o' = o
  · subst e1
    rw [ho] at hx; cases hx
    cases p with
    | nil => have := hn.sub; simp [subO] at this
    | cons z p => simp only [zH, if_true]; exact .dead
  · have : zH o (.ref o' p n) = .ref o' p n := by cases p <;> simp [zH, e1]
    rw [this]
    exact .ref (hne o' y e1 hx) (hn.ghc rfl rfl rfl) hle
 | @bp o' j cs' hx =>
  by_cases e1 : o' = o
  · subst e1
    exact VR.bp (gh := gh.shb o') hself
  · exact VR.bp (gh := gh.shb o) (hne o' _ e1 hx)
 | @rp o' i j p y e es ad c hx hn =>
  by_cases e1 : o' = o
  · subst e1
    rw [ho] at hx; cases hx
    cases p with
    | nil => have := hn.sub; simp [subO] at this
    | cons z p => simp only [zH, if_true]; exact .dead
  · have : zH o (.rp o' p i j) = .rp o' p i j := by cases p <;> simp [zH, e1]
    rw [this]
    exact .rp (hne o' y e1 hx) (hn.ghc rfl rfl rfl)
 | ip U hs h => exact .ip U (Or.inl hs) (fun q d hd => ⟨(h q d hd).1, (h q d hd).2.mono (fun k hk => Or.inl hk)⟩)
 | clo h => exact .clo (gh := gh.shb o) (h.same (fun k hk => Or.inl hk))
 | agg hl h1 h ih =>
  simp only [zH]
  refine .agg (by rw [ZQ]; exact hl) h1 (fun i v hv => ?_)
  rw [zaC] at hv
  obtain ⟨v0, hv0, rfl⟩ := oM.1 hv
  exact ih i v0 hv0
 | tup hl h ih =>
  simp only [zH]
  refine .tup (by rw [ZQ]; exact hl) (fun i v hv => ?_)
  rw [zaC] at hv
  obtain ⟨v0, hv0, rfl⟩ := oM.1 hv
  exact ih i v0 hv0
 | cond ht hf ih => simp only [zH]; exact .cond ih hf
theorem Ent.shb (hz : C.full) (o : Nat) : Ent P C st (st.shb o) := fun a w gh h => by
 unfold St.shb
 split
 case h_2 => exact ⟨gh, h⟩
 rename_i cs ho
 have hob := h.obs o _ ho
 have hbF : gh.F o (gh.bb o) := by cases hob with | box xs G hb hl h1 hc hx dis nb hF => exact (hF _).2 (Or.inl rfl)
 have hd : ∀ o' x, look (st.swap o (.box (shL cs))).ob o' = some x -> (o' = o /\ x = .box (shL cs)) \/ (o' ≠ o /\ look st.ob o' = some x) := fun o' x hx => by
  simp only [St.swap, look] at hx
  by_cases e1 : o' = o
  · rw [if_pos e1] at hx; cases hx; exact Or.inl ⟨e1, rfl⟩
  · rw [if_neg e1, yg, if_neg (fun e => e1 e.symm)] at hx; exact Or.inr ⟨e1, hx⟩
 have hF : ∀ o' k, (gh.shb o).F o' k -> gh.F o' k := fun o' k hk => by
  simp only [Gh.shb] at hk
  by_cases e1 : o' = o
  · rw [if_pos e1] at hk; subst e1; rw [hk]; exact hbF
  · rw [if_neg e1] at hk; exact hk
 have hold : ∀ o' x, look (st.swap o (.box (shL cs))).ob o' = some x -> ∃ y, look st.ob o' = some y := fun o' x hx => by
  rcases hd o' x hx with ⟨rfl, _⟩ | ⟨_, hx⟩
  · exact ⟨_, ho⟩
  · exact ⟨_, hx⟩
 refine ⟨gh.shb o, ?_⟩
 exact {
  obs := fun o' b hb => by
   rcases hd o' b hb with ⟨rfl, rfl⟩ | ⟨hne, hb⟩
   · cases hob with
     | box xs G hb hl h1 hc hx dis nb hF =>
      refine ObR.box xs (fun _ _ => False) hb (by rw [zad, List.length_map]; exact hl) h1 hc (fun j d hd => ?_) (fun _ _ _ _ _ _ _ hh => hh.elim) (fun _ _ _ _ hh => hh.elim) (fun k => ?_)
      · rw [zad, List.getElem?_map] at hd
        obtain ⟨d0, hd0, rfl⟩ := oM.1 hd
        exact Ro.own (Ro.sh ((hx j d0 hd0).ro (fun k hk => Or.inr ⟨(hF k).2 (Or.inr ⟨j, d0, hd0, hk⟩), nb j d0 k hd0 hk⟩) (fun k hk => Or.inl hk)))
      · simp [Gh.shb]
   · have hm := (h.obs o' b hb).mono (F := fun k => gh.F o k /\ k ≠ gh.bb o)
     exact hm.at rfl rfl rfl rfl (by funext k; simp [Gh.shb, Gh.more, hne])
  dis := fun o1 o2 b1 b2 k h1 h2 hk1 hk2 => by
   obtain ⟨y1, h1⟩ := hold _ _ h1
   obtain ⟨y2, h2⟩ := hold _ _ h2
   exact h.dis o1 o2 y1 y2 k h1 h2 (hF _ _ hk1) (hF _ _ hk2)
  sS := fun k hk => hk.elim (h.sS k) (fun hk => hob.lt k hk.1)
  nS := fun o' b k hb hk hS => by
   obtain ⟨y, hy⟩ := hold _ _ hb
   rcases hS with hS | ⟨hS, hne⟩
   · exact h.nS o' y k hy (hF _ _ hk) hS
   · have e1 := h.dis o' o y _ k hy ho (hF _ _ hk) hS
     subst e1
     simp only [Gh.shb, if_true] at hk
     exact hne hk
  wrR := fun o' e' es' k hb hk => by
   rcases hd _ _ hb with ⟨_, hx⟩ | ⟨_, hx⟩
   · cases hx
   · exact h.wrR o' e' es' k hx (hF _ _ hk)
  wrB := fun o' cs' k hb hk hne => by
   rcases hd _ _ hb with ⟨e1, hx⟩ | ⟨_, hx⟩
   · subst e1
     simp only [Gh.shb, if_true] at hk
     exact (hne hk).elim
   · exact h.wrB o' cs' k hx (hF _ _ hk) hne
  wrC := fun o' cs' j hb hj => by
   rcases hd _ _ hb with ⟨e1, hx⟩ | ⟨_, hx⟩
   · subst e1; cases hx
     rw [zad, List.length_map] at hj
     exact h.wrC _ cs j ho hj
   · exact h.wrC o' cs' j hx hj
  kept := h.kept
  pins := fun o' x hp hn => h.pins o' x hp (fun e' => by
   cases hq : look (st.swap o (.box (shL cs))).ob o' with
   | none => exact hn hq
   | some y =>
    obtain ⟨y2, h2⟩ := hold _ _ hq
    rw [e'] at h2; cases h2)
  tms := fun t => by
   rw [St.get_swap]
   exact (h.tms t).shb ho
  nt := h.nt
  dfs := h.dfs
  xl := h.xl
  xS := fun k hk hS => hS.elim (h.xS k hk) (fun hk' => h.xF o _ k ho hk hk'.1)
  xF := fun o' b k hb hk hk2 => by
   obtain ⟨y, hy⟩ := hold _ _ hb
   exact h.xF o' y k hy hk (hF _ _ hk2)
  xW := h.xW
  s0S := fun k hk => Or.inl (h.s0S k hk)
  sZ := fun k hk => hk.elim (h.sZ k) (fun hk' => hz k ((h.wrB o cs k ho hk'.1 hk'.2).imp id (fun hh => ⟨0, hh 0⟩))) }
theorem Tri.last (F : St -> St) (hF : ∀ s, Ent P C s (F s)) {c : Code} {Q : Exit -> St -> Prop} (h : Tri P C st c (fun e s => Q e (F s))) : Tri P C st c Q := fun a w gh hR =>
 Code.wp_mono (fun e a' w' ⟨s, g, hk, hr⟩ => by
  obtain ⟨g', hr'⟩ := hF s a' w' g hr
  exact ⟨F s, g', hk, hr'⟩) (h a w gh hR)
end
attribute [go_sem] XW zcZ St.shb
end Go.Proofs.YtjjigphfjclofaaGreatDoor.AW
