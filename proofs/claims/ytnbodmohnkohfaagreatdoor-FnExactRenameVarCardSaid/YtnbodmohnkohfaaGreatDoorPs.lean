/- The library's sort of numbers: its contract here. No condition beyond those named. -/
import Derived.Test.YtnbodmohnkohfaaGreatDoorPd
import Derived.Shelf.Lay
import Derived.Shelf.Sort.Plain
import Derived.Shelf.Slices.In.SortNone2
import Derived.Sort.OwnSortedInts
namespace Go.Proofs
open Go.Shelf
shelf_lay Lays.n191 Nm 191 at Tryz as YtnbodmohnkohfaaGreatDoorlays
end Go.Proofs
namespace Go.Proofs.YtnbodmohnkohfaaGreatDoor.AW
open Go.RowKit Go.Sort
set_option maxHeartbeats 8000000
set_option maxRecDepth 100000
set_option linter.unusedSimpArgs false
set_option linter.unusedVariables false

def sorted (l : List Int) : List Int := l.mergeSort fun x y => decide (x ≤ y)
theorem sorted_length (l : List Int) : (sorted l).length = l.length := (List.mergeSort_perm l _).length_eq
theorem sorted_mem (l : List Int) (x : Int) : x ∈ sorted l ↔ x ∈ l := (List.mergeSort_perm l _).mem_iff
theorem sorted_le (l : List Int) : (sorted l).Pairwise (· ≤ ·) := by
  have := List.pairwise_mergeSort (le := fun x y : Int => decide (x ≤ y)) (fun a b c h1 h2 => by simp at *; omega) (fun a b => by simp; omega) l
  exact this.imp (fun h => by simpa using h)
/-- Two rising lists with the same members are the same. -/
theorem rising_eq : ∀ {l m : List Int}, l.Pairwise (· < ·) → m.Pairwise (· < ·) → (∀ x, x ∈ l ↔ x ∈ m) → l = m
  | [], [], _, _, _ => rfl
  | [], y :: m, _, _, h => by have := (h y).2 List.mem_cons_self; simp at this
  | x :: l, [], _, _, h => by have := (h x).1 List.mem_cons_self; simp at this
  | x :: l, y :: m, hl, hm, h => by
    have hl' := List.pairwise_cons.1 hl
    have hm' := List.pairwise_cons.1 hm
    have hxy : x = y := by
      have h1 := (h x).1 List.mem_cons_self
      have h2 := (h y).2 List.mem_cons_self
      rcases List.mem_cons.1 h1 with e | e
      · exact e
      · rcases List.mem_cons.1 h2 with e' | e'
        · exact e'.symm
        · have a := hl'.1 y e'; have b := hm'.1 x e; omega
    subst hxy
    congr 1
    refine rising_eq hl'.2 hm'.2 (fun z => ⟨fun hz => ?_, fun hz => ?_⟩)
    · rcases List.mem_cons.1 ((h z).1 (List.mem_cons_of_mem _ hz)) with e | e
      · subst e; have := hl'.1 z hz; omega
      · exact e
    · rcases List.mem_cons.1 ((h z).2 (List.mem_cons_of_mem _ hz)) with e | e
      · subst e; have := hm'.1 z hz; omega
      · exact e
theorem sorted_eq {l m : List Int} (hn : l.Nodup) (hm : m.Pairwise (· < ·)) (h : ∀ x, x ∈ l ↔ x ∈ m) : sorted l = m := by
  refine rising_eq ?_ hm (fun x => (sorted_mem l x).trans (h x))
  have h1 := sorted_le l
  have h2 : (sorted l).Nodup := (List.mergeSort_perm l _).nodup_iff.2 hn
  exact List.Pairwise.imp₂ (fun a b hab hne => by omega) h1 h2

theorem sortInts_sound (l : List Int) (hlen : l.length < 4611686018427387904) : SoundAt Tryz.prog 84 (fun uf => argsV 0 [.ro (.ref 2000 [] l.length)]) [(2000, .row 3 (row1 cI l))] (fun rs st => rs = [] ∧ nowIs st.ob [(2000, .row 3 (row1 cI (sorted l)))]) := by
  refine ⟨by kernel_rfl, fun uf ub C w gh us hw hpin hpin2 hfull hus hR => ?_⟩
  have h0 := hR.tms 0
  have e0 : St.get ⟨us.size, zipT 0 (argsV 0 [Arg.ro (.ref 2000 [] l.length)]), [(2000, Ob.row 3 (row1 cI l))]⟩ 0 = .ref 2000 [] l.length := rfl
  rw [e0] at h0
  have hus1 : us.size = 1 := hus
  obtain ⟨u, rfl⟩ : ∃ u, us = #[u] := ⟨us[0], by apply Array.ext (by simp [hus1]); intro i h1 h2; simp at h2; subst h2; rfl⟩
  have eu : (#[u] : Array Value).getD 0 undef = u := rfl
  simp only [eu] at h0
  have hob := hR.obs 2000 (.row 3 (row1 cI l)) rfl
  cases h0 with
  | @ref o n p x e es A c hx hn hle =>
  have hx' : Ob.row 3 (row1 cI l) = x := by simpa [look] using hx
  subst hx'
  obtain ⟨rfl, rfl, hv⟩ := navO_nil hn
  rw [row1_length] at hv
  cases hob with
  | row how =>
  have hwr := hR.wrR 2000 3 (row1 cI l)
  have hns := hR.nS 2000 (.row 3 (row1 cI l))
  generalize hF : gh.F 2000 = F0 at how hwr hns
  generalize hvv : gh.hv 2000 = v0 at how hv
  subst hv
  generalize hq : Value.slice A l.length c = v at how
  generalize hes : row1 cI l = es at how
  generalize hD : D.row false 3 es = dd at how
  cases how with
  | dead | sc | shared => cases hD
  | @row e' es' v' xs F own hsz h1 hxx dis nb =>
  injection hD with _ he hes2
  subst he
  subst hes2
  subst hes
  subst hq
  have hxs : xs = l.map (Value.int .i64) := by
    have hl0 := own.1
    rw [szInt, Nat.mul_one, row1_length] at hl0
    refine List.ext_getElem (by simp [hl0]) (fun i g1 g2 => ?_)
    have hil : i < l.length := by omega
    have := hxx i 0 (cI l[i]) (by unfold cellAt; rw [row1_getq cI l hil]; rfl)
    rw [szInt, Nat.mul_one, Nat.add_zero] at this
    have e1 : xs.getD i undef = xs[i] := by simp [List.getD, g1]
    rw [e1] at this
    have h2 := Ow.ro (S' := fun _ => True) this (fun _ _ => trivial) (fun _ _ => trivial)
    generalize xs[i] = y at h2
    cases h2
    simp
  have hres : ∀ (w' : World) (S : Nat → Prop), Res Tryz.prog w' S [] [] (fun _ _ _ => False) := fun w' S =>
    ⟨rfl, fun i r v h => by simp at h, fun i r v h => by simp at h, fun i r v h => by simp at h, fun i v h => by simp at h, fun i r v j d h => by simp at h, fun i j i' j' r r' d d' k h => by simp at h⟩
  have hnone : ∀ k, inHand [] (fun _ _ _ => False) k → False := fun k ⟨i, j, r, d, h, _⟩ => by simp at h
  rcases own.2 with ⟨hnil, hn0⟩ | ⟨g, cap, cur, hval, _, hblk, hnc, hcm, hcs, htk⟩
  · rw [row1_length] at hn0
    have hl0 : l = [] := List.eq_nil_of_length_eq_zero hn0
    subst hl0
    injection hnil with g1 g2 g3
    subst g1
    subst g3
    refine (Any.sort_Ints_none YtnbodmohnkohfaaGreatDoorlays none 0 w).mono (fun e w' he => ?_)
    obtain ⟨rfl, rfl⟩ := he
    exact ⟨[], [], _, _, gh, fun _ _ _ => False, rfl, ⟨rfl, by simp [nowIs, look, sorted]⟩, hres _ _, hR.less (fun k hk => (hnone k hk).elim)⟩
  · rw [row1_length] at hval hnc htk
    injection hval with g1 g2 g3
    subst g1
    subst g3
    rw [szInt, Nat.mul_one] at htk
    rw [szInt, Nat.mul_one] at hcs
    have hgl : g < w.heap.size := (Array.getElem?_eq_some_iff.1 hblk).1
    refine (Any.sort_Ints YtnbodmohnkohfaaGreatDoorlays g 0 c l w (holds_of_blockI hblk (by rw [htk, hxs])) hgl hlen).mono (fun e w' he => ?_)
    obtain ⟨rfl, n, os, rfl⟩ := he
    have hgb := grownBy_sortedI (w := w) (g := g) (n := n) (os := os) (sorted l).toArray
    have hgr := ownsRow_sortedI (n := n) (os := os) (base := 0) (sorted_length l) (Nat.zero_le g) hblk hnc hcm (by simpa using hcs)
    have hheap := heap_sortedI (n := n) (os := os) (sorted l).toArray hblk
    generalize hw' : grow (putRow (Value.int .i64) (Sort.ahead w n) g 0 (sorted l).toArray) os = w' at hgb hgr hheap
    have hgF : gh.F 2000 g := by rw [hF]; exact Or.inl rfl
    have hwg := hR.wrR 2000 3 (row1 cI l) g rfl hgF
    have hnsg := hR.nS 2000 (.row 3 (row1 cI l)) g rfl hgF
    have hone : ∀ o, o ∉ [2000] → ∀ (q : Ob), look [(2000, q)] o = none := fun o ho q => by
      have : o ≠ 2000 := by simpa using ho
      simp [look, this]
    let st0 : St := ⟨(#[Value.slice (some ⟨g, 0, none⟩) l.length c]).size, zipT 0 (argsV 0 [Arg.ro (.ref 2000 [] l.length)]), [(2000, Ob.row 3 (row1 cI l))]⟩
    let st' : St := ⟨st0.nt, mapT (killI [2000]) st0.tm, [(2000, .row 3 (row1 cI (sorted l)))]⟩
    have hR0 : Rep Tryz.prog C No st0 ⟨#[Value.slice (some ⟨g, 0, none⟩) l.length c], []⟩ w gh := hR
    have hlo : ∀ o, o ∈ [2000] → o = 2000 := fun o ho => by simpa using ho
    obtain ⟨gh', hr', _, _⟩ := hR0.multi (st' := st') (w1 := w') [2000] (fun o => look st'.ob o) (fun o k => k = g) (fun _ => False) (fun o ho => rfl) (fun o ho => (hone o ho _).trans (hone o ho _).symm)
      (fun t => by unfold St.get; simp only [st', look_mapT]; cases look st0.tm t <;> simp [killI]) rfl
      (fun o ho => by
        rw [hlo o ho]
        exact ⟨3, row1 cI l, row1 cI (sorted l), rfl, rfl, by rw [row1_length, row1_length, sorted_length]⟩)
      hgb.size (fun o x k ho hx => by rw [hone o ho] at hx; cases hx)
      (fun k hk => hgb.block k (hR.sS k hk) (fun e => by cases e; exact hnsg hk))
      ⟨hgb.os, hgb.output, fun i hi => by
        by_cases hig : i = g
        · subst hig
          rw [hblk, hheap]
          refine ⟨rfl, rfl, by simp [putCells], fun j hj => (hj ⟨i, j, rfl, hwg.imp id (fun hh => hh j)⟩).elim⟩
        · have h1 := hgb.block i hi (fun e => hig (by cases e; rfl))
          have h2 := (World.keptBut_refl w (fun p => ∃ b f, p = MemPlace.cell b f ∧ (C.w0.heap.size ≤ b ∨ C.may b f))).2.2 i hi
          rw [h1]; exact h2⟩
      (fun o ho e es' hno => by
        rw [hlo o ho] at hno ⊢
        have hno : some (Ob.row 3 (row1 cI (sorted l))) = some (Ob.row e es') := hno
        injection hno with hno
        injection hno with h1 h2
        subst h1
        subst h2
        rw [hvv]
        have how2 : Ow Tryz.prog w' gh.S (.row false 3 (row1 cI (sorted l))) (.slice (some ⟨g, 0, none⟩) l.length c) (fun k => (Value.slice (some ⟨g, 0, none⟩) l.length c).ownBlock = some k ∨ ∃ i j d, cellAt (row1 cI (sorted l)) i j = some d ∧ (fun _ => False) k) := by
          refine Ow.row ((sorted l).map (Value.int .i64)) (fun _ _ _ => False) ?_ ?_ ?_ ?_ (fun i j i' j' d d' k _ _ h => h.elim) (fun i j d k _ h => h.elim)
          · rw [szInt, row1_length, sorted_length]; exact hgr
          · intro q hq; simp [row1] at hq; obtain ⟨z, _, rfl⟩ := hq; simp [szInt]
          · intro q hq; simp at hq; obtain ⟨z, _, rfl⟩ := hq; rfl
          · intro i j d hd
            have hil : i < (sorted l).length := by have := cellAt_lt hd; rwa [row1_length] at this
            have hj := cellAt_len (n := 1) hd (fun q hq => by simp [row1] at hq; obtain ⟨z, _, rfl⟩ := hq; rfl)
            obtain rfl : j = 0 := by omega
            unfold cellAt at hd
            rw [row1_getq cI _ hil] at hd
            simp at hd
            subst hd
            have e1 : ((sorted l).map (Value.int .i64)).getD (i * szT Tryz.prog 3 + 0) undef = .int .i64 (sorted l)[i] := by
              rw [szInt, Nat.mul_one, Nat.add_zero]; simp [List.getD, hil]
            rw [e1]
            exact Ow.sc rfl
        exact how2.congr (fun k => ⟨fun h => h.elim (fun h => by injection h with h; exact h.symm) (fun ⟨_, _, _, _, h⟩ => h.elim), fun h => Or.inl (by rw [h]; rfl)⟩))
      (fun o ho k hk => Or.inl ⟨2000, by simp, by rw [hk]; exact hgF⟩)
      (fun o o' k ho ho' _ _ => (hlo o ho).trans (hlo o' ho').symm)
      (fun k hk => hk.elim) (fun o k ho hk hk' => hk')
    subst hw'
    exact ⟨[], [], st', _, gh', fun _ _ _ => False, rfl, ⟨rfl, rfl, trivial⟩, hres _ _, hr'.less (fun k hk => (hnone k hk).elim)⟩
end Go.Proofs.YtnbodmohnkohfaaGreatDoor.AW
