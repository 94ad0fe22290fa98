/- What the statements of this set lean on, part 7. No condition beyond those named. -/
import Derived.Test.YtjjigphfjclofaaGreatDoorLx6
namespace Go.Proofs.YtjjigphfjclofaaGreatDoor.AW
open Go.RowKit
open Nat (reduceAdd reduceMul)
set_option maxHeartbeats 8000000
set_option maxRecDepth 100000
set_option linter.unusedSimpArgs false
set_option linter.unusedVariables false
theorem zfG (S : Int -> List ByteArray -> Bool) (nodes : List NodeD) : ∀ (l : List Int) (k : Int) (nm : List ByteArray), Zz S nodes true nm (l ++ [k]) = (Zz S nodes true nm l && S k (ZV nodes nm l))
 | [], k, nm => by simp [Zz, ZV]
 | a :: r, k, nm => by
   simp only [List.cons_append, Zz]
   rw [zfG S nodes r k, Bool.and_assoc]
   rfl
theorem zlj (S : Int -> List ByteArray -> Bool) (nodes : List NodeD) (nm : List ByteArray) {l : List Int} {i : Nat} (h : i < l.length) : Zz S nodes true nm (l.take (i + 1)) = (Zz S nodes true nm (l.take i) && S l[i] (ZV nodes nm (l.take i))) := by
 rw [List.take_succ_eq_append_getElem h, zfG]
theorem zZ {nodes : List NodeD} {n : Nat} (hd : dAt nodes n ≠ 0) (hn : n < nodes.length) : inI nodes[n].kids.length (zA nodes[n].kind).1 (zA nodes[n].kind).2 = true := by
 have hb := XD nodes n hd
 simp only [YV, Bool.and_eq_true, zbA] at hb
 obtain ⟨_, _, hs, _⟩ := hb
 rwa [zI hn] at hs
def zqd (nm : List ByteArray) (x : NodeD) : List ByteArray := if x.kind == 13 then nm ++ [x.name] else nm
def znr (p : ProgramD) (f n : Nat) : Prop := ZT (nAt p.nodes n).kind = true -> ∀ (nm : List ByteArray) (bad : Bool), nm.length + 300 * n <= 4194304 ->
   SoundAt Tryz.prog 196 (fun uf => zq 0 [.ro (.bp 2000 0), .ro (.sc (.int .i64 n))]) [(2000, .box (zC p f nm bad))]
     (fun rs st => rs = [] /\ yh st.ob [(2000, .box (zC p f (zqd nm (nAt p.nodes n)) (bad || !zU p f n nm)))])
def zgW (p : ProgramD) (f n : Nat) : Prop := (nAt p.nodes n).kind == 20 -> ∀ (nm : List ByteArray) (bad : Bool), nm.length + 300 * n <= 4194304 ->
   SoundAt Tryz.prog 166 (fun uf => zq 0 [.ro (.bp 2000 0), .ro (.sc (.int .i64 n))]) [(2000, .box (zC p f nm bad))]
     (fun rs st => rs = [] /\ yh st.ob [(2000, .box (zC p f (ZV p.nodes nm (nAt p.nodes n).kids) (bad || !zU p f n nm)))])
theorem zoA (p : ProgramD) (hD : Deep p.nodes) (f : Nat) (hk : ∀ x ∈ p.nodes, x.kids.length <= 300) (n : Nat) (hnl : n < p.nodes.length) (ih : ∀ m, m < n -> znr p f m) : zgW p f n := by
 intro h20 nm bad hnm
 rw [zI hnl] at h20 |-
 have hkid := hD.kid hnl
 have hkx := hk p.nodes[n] (List.getElem_mem hnl)
 have heq := zcX hD f hnl nm
 have hx : (rows (zg true) p.nodes).getD n [] = zg true p.nodes[n] := zi _ _ hnl
 have hrec : ∀ i (hi : i < p.nodes[n].kids.length), ∀ (L : List ByteArray) (b : Bool), L.length + 300 * p.nodes[n].kids[i].toNat <= 4194304 -> SoundAt Tryz.prog 196 (fun uf => zq 0 [.ro (.bp 2000 0), .ro (.sc (.int .i64 p.nodes[n].kids[i]))]) [(2000, .box (zC p f L b))]
     (fun rs st => rs = [] /\ yh st.ob [(2000, .box (zC p f (zep p.nodes true L p.nodes[n].kids[i]) (b || !zU p f p.nodes[n].kids[i] L)))]) := fun i hi L b hL => by
   have hft := yP (hD.deep n hnl) hnl hi
   unfold yD at hft
   rw [h20, if_pos rfl] at hft
   obtain ⟨q0, q1, q2⟩ := hkid p.nodes[n].kids[i] (List.getElem_mem hi)
   have e : p.nodes[n].kids[i] = (p.nodes[n].kids[i].toNat : Int) := by omega
   have := ih p.nodes[n].kids[i].toNat q2 (by rw [<- e]; exact hft) L b hL
   rw [<- e] at this
   exact this
 have hown : ownB p f nm p.nodes[n] = true := by
   have hk := eq_of_beq h20
   unfold ownB YX; rw [hk]; simp [inI]
 rw [hown, Bool.true_and, h20] at heq
 generalize zU p f n nm = R at heq |-
 have hc1 : ((n : Int) < (p.nodes.length : Int)) = True := eq_true (by omega)
 generalize p.nodes[n] = x at hkid hkx heq hx hrec
 refine zt (fn := Tryz.f166) (c := Tryz.f166.body.getD .skip) (res := []) (n := 33) ze (by kernel_rfl) (by rfl) (by kernel_rfl) (by rfl) (by rfl) (by simp [zq]) (fun uf ub C hpin hpin2 hfull => ?_)
 simp only [Tryz.f166, Option.getD_some]
 refine Tri.step ze ?_
 simp +decide only [zb, za, zC, hpin, hpin2, go_sem, reduceAdd, reduceMul]
 refine zf ze _ ?_
 simp +decide only [zb, za, zC, hpin, hpin2, go_sem, reduceAdd, reduceMul]
 refine Tri.loop (ι := Nat) (fun i => i <= x.kids.length) (fun i => ⟨33, [(0, .bp 2000 0), (1, vI n), (4, vI i)], [(2000, .box (zC p f (ZV p.nodes nm (x.kids.take i)) (bad || !Zz (zU p f) p.nodes true nm (x.kids.take i))))]⟩) (fun i => x.kids.length - i) 0 (by simp) ?_ ?_
 · have e1 : ZV p.nodes nm [] = nm := rfl
   have e2 : (bad || !Zz (zU p f) p.nodes true nm []) = bad := by simp [Zz]
   refine Ent.weak ?_ ?_ ?_ ?_ <;> simp +decide [subT, subB, zl, zk, zo, St.get, look, vI, vB, vS, cI, cS, cB, zg, za, zC, roI, e1, e2]
   all_goals simp [Zz]
 · rintro i hi
   refine zf ze _ ?_
   by_cases h' : i < x.kids.length
   · have e : ((i : Int) < (x.kids.length : Int)) = True := by simp [h']
     have hgl := YP p.nodes (x.kids.take i) nm
     rw [List.length_take] at hgl
     obtain ⟨q0, q1, q2⟩ := hkid x.kids[i] (List.getElem_mem h')
     have hs := hrec i h' (ZV p.nodes nm (x.kids.take i)) (bad || !Zz (zU p f) p.nodes true nm (x.kids.take i)) (by omega)
     have hnx : ((bad || !Zz (zU p f) p.nodes true nm (x.kids.take i)) || !zU p f x.kids[i] (ZV p.nodes nm (x.kids.take i))) = (bad || !Zz (zU p f) p.nodes true nm (x.kids.take (i + 1))) := by
       rw [zlj _ _ _ h']
       generalize Zz (zU p f) p.nodes true nm (x.kids.take i) = A
       cases bad <;> cases A <;> rfl
     rw [hnx, <- zfM p.nodes nm h'] at hs
     simp only [zC, cI, cB] at hs
     simp +decide only [e, h', hc1, hx, zr _ _ h', zg, Int.natCast_nonneg, vB, vI, zb, za, zC, hpin, hpin2, go_sem, reduceAdd, reduceMul]
     refine zw hs hpin hfull [(2000, 2000)] [] [(2000, 2000)] ⟨rfl, rfl, rfl, rfl⟩ (fun uf => ?_) ?_
     · simp +decide only [zb, za, zC, hpin, hpin2, go_sem, reduceAdd, reduceMul]
     simp +decide only [zb, za, zC, hpin, hpin2, go_sem, reduceAdd, reduceMul]
     refine ⟨i + 1, h', by omega, Ent.weak ?_ ?_ ?_ ?_⟩
     all_goals simp +decide [subT, subB, zl, zk, zo, St.get, look, vI, vB, vS, cI, cS, cB, zg, za, zC, roI, w64s (n := x.kids.length) h' (by omega)]
   · have hil : i = x.kids.length := by omega
     subst hil
     have e : ((x.kids.length : Int) < (x.kids.length : Int)) = False := by simp
     simp +decide only [e, hc1, hx, heq, zg, Int.natCast_nonneg, vB, vI, zb, za, zC, hpin, hpin2, go_sem, reduceAdd, reduceMul]
theorem zoT (p : ProgramD) (hD : Deep p.nodes) (f : Nat) (hfl : f < p.fns.length) (hf : p.fns.length <= 1048576) (hn : p.nodes.length <= 1048576) (hk : ∀ x ∈ p.nodes, x.kids.length <= 300) (n : Nat) (hnl : n < p.nodes.length) (ih : ∀ m, m < n -> zgW p f m) : znr p f n := by
 intro hst nm bad hnm
 rw [zI hnl] at hst |-
 have hkid := hD.kid hnl
 have hkx := hk p.nodes[n] (List.getElem_mem hnl)
 have heq := zcX hD f hnl nm
 have hx : (rows (zg true) p.nodes).getD n [] = zg true p.nodes[n] := zi _ _ hnl
 have hsr := zu (show inI p.nodes[n].kind 13 19 = true from hst)
 have v20 : (p.nodes[n].kind == 20) = false := by apply Bool.eq_false_iff.2; intro hh; have := eq_of_beq hh; omega
 have v12 : (p.nodes[n].kind == 12) = false := by apply Bool.eq_false_iff.2; intro hh; have := eq_of_beq hh; omega
 have hsh := zZ (hD.deep n hnl) hnl
 have hpos : 0 < p.nodes[n].kids.length := by
   have := zu hsh
   have h1 : 1 <= (zA p.nodes[n].kind).1 := by
     rcases (show p.nodes[n].kind = 13 \/ p.nodes[n].kind = 14 \/ p.nodes[n].kind = 15 \/ p.nodes[n].kind = 16 \/ p.nodes[n].kind = 17 \/ p.nodes[n].kind = 18 \/ p.nodes[n].kind = 19 by omega) with h | h | h | h | h | h | h <;> rw [h] <;> decide
   omega
 have hone : (p.nodes[n].kind == 16) = false -> (p.nodes[n].kind == 17) = false -> p.nodes[n].kids.length = 1 := fun h16 h17 => by
   have := zu hsh
   have g16 : p.nodes[n].kind ≠ 16 := by simpa using h16
   have g17 : p.nodes[n].kind ≠ 17 := by simpa using h17
   have h1 : (zA p.nodes[n].kind).2 = 1 := by
     rcases (show p.nodes[n].kind = 13 \/ p.nodes[n].kind = 14 \/ p.nodes[n].kind = 15 \/ p.nodes[n].kind = 18 \/ p.nodes[n].kind = 19 by omega) with h | h | h | h | h <;> rw [h] <;> decide
   omega
 have hval : ∀ b : Bool, SoundAt Tryz.prog 167 (fun uf => zq 0 [.ro (.bp 2000 0), .ro (.sc (.int .i64 p.nodes[n].kids[0]))]) [(2000, .box (zC p f nm b))]
     (fun rs st => rs = [] /\ yh st.ob [(2000, .box (zC p f nm (b || !zU p f p.nodes[n].kids[0] nm)))]) := fun b => by
   have hft := yP (hD.deep n hnl) hnl hpos
   have hv2 : yV (nAt p.nodes p.nodes[n].kids[0]).kind = true := by
     unfold yD at hft
     have h00 : decide ((0 : Int) < ((0 : Nat) : Int)) = false := by decide
     rw [v20, if_neg (by decide), h00, Bool.and_false, if_neg (by decide)] at hft
     split at hft
     · have := eq_of_beq hft; rw [this]; decide
     · exact hft
   obtain ⟨q0, q1, q2⟩ := hkid p.nodes[n].kids[0] (List.getElem_mem hpos)
   have e : p.nodes[n].kids[0] = (p.nodes[n].kids[0].toNat : Int) := by omega
   have := zdi p hD f hfl hf hn hk nm (by omega) p.nodes[n].kids[0].toNat (by omega) (by rw [<- e]; exact hv2) b
   rw [<- e] at this
   exact this
 have hblk : ∀ i (hi : i < p.nodes[n].kids.length), 0 < i -> ((p.nodes[n].kind == 16) = true \/ (p.nodes[n].kind == 17) = true) -> ∀ b : Bool, SoundAt Tryz.prog 166 (fun uf => zq 0 [.ro (.bp 2000 0), .ro (.sc (.int .i64 p.nodes[n].kids[i]))]) [(2000, .box (zC p f nm b))]
     (fun rs st => rs = [] /\ yh st.ob [(2000, .box (zC p f (ZV p.nodes nm (nAt p.nodes p.nodes[n].kids[i]).kids) (b || !zU p f p.nodes[n].kids[i] nm)))]) := fun i hi hi0 h67 b => by
   have hft := yP (hD.deep n hnl) hnl hi
   unfold yD at hft
   have h68 : (p.nodes[n].kind == 16 || p.nodes[n].kind == 17) = true := by rw [Bool.or_eq_true]; exact h67
   have hi1 : decide ((0 : Int) < (i : Int)) = true := decide_eq_true (by omega)
   rw [v20, if_neg (by decide), h68, hi1, Bool.true_and, if_pos rfl] at hft
   obtain ⟨q0, q1, q2⟩ := hkid p.nodes[n].kids[i] (List.getElem_mem hi)
   have e : p.nodes[n].kids[i] = (p.nodes[n].kids[i].toNat : Int) := by omega
   have := ih p.nodes[n].kids[i].toNat q2 (by rw [<- e]; exact hft) nm b (by omega)
   rw [<- e] at this
   exact this
 rw [v20, zba] at heq
 unfold ownB at heq
 rw [v12, Bool.not_false, Bool.true_or, Bool.and_true] at heq
 generalize zU p f n nm = R at heq |-
 have hc1 : ((n : Int) < (p.nodes.length : Int)) = True := eq_true (by omega)
 have hc0 : ((0 : Int) < (p.nodes[n].kids.length : Int)) = True := eq_true (by omega)
 generalize p.nodes[n] = x at hkid hkx heq hx hsr v20 v12 hpos hone hval hblk hc0
 have hhas := zcF nm x.name (by omega)
 have hv1 := hval bad
 have ht1 : (x.kids.take 1).all (fun kid => zU p f kid nm) = zU p f x.kids[0] nm := by
   have := zbT (f := fun kid => zU p f kid nm) hpos
   simpa using this
 have hone2 : (x.kind == 16) = false -> (x.kind == 17) = false -> x.kids.all (fun kid => zU p f kid nm) = zU p f x.kids[0] nm := fun h16 h17 => by
   have h1 := hone h16 h17
   rw [<- ht1, List.take_of_length_le (by omega)]
 have hg0 : (row1 cI x.kids).getD (Int.toNat 0) [] = [cI x.kids[0]] := zr cI x.kids hpos
 simp only [zC, cI, cB] at hv1
 simp only [cI] at hg0
 refine zt (fn := Tryz.f196) (c := Tryz.f196.body.getD .skip) (res := []) (n := 83) ze (by kernel_rfl) (by rfl) (by kernel_rfl) (by rfl) (by rfl) (by simp [zq]) (fun uf ub C hpin hpin2 hfull => ?_)
 simp only [Tryz.f196, Option.getD_some]
 refine Tri.last (fun s => St.shb s 2000) (fun s => Ent.shb hfull 2000) ?_
 refine Tri.step ze ?_
 simp +decide only [hc1, hx, zg, Int.natCast_nonneg, zb, za, zC, hpin, hpin2, go_sem, reduceAdd, reduceMul]
 refine Tri.ent ?_ (Ent.frb hfull 4)
 refine Tri.step ze ?_
 simp +decide only [hc0, hpos, hg0, zg, Int.natCast_nonneg, zb, za, zC, hpin, hpin2, go_sem, reduceAdd, reduceMul]
 refine zw hv1 hpin hfull [(2000, 2000)] [] [(2000, 2000)] ⟨rfl, rfl, rfl, rfl⟩ (fun uf => ?_) ?_
 · simp +decide only [zb, za, zC, hpin, hpin2, go_sem, reduceAdd, reduceMul]
 simp +decide only [zg, zb, za, zC, hpin, hpin2, go_sem, reduceAdd, reduceMul]
 refine Tri.step ze ?_
 simp +decide only [zg, zb, za, zC, hpin, hpin2, go_sem, reduceAdd, reduceMul]
 refine zf ze _ ?_
 unfold zqd
 cases h13 : x.kind == 13 with
 | true =>
   have hk := eq_of_beq h13
   have heq2 : R = zU p f x.kids[0] nm := by
     rw [heq, hone2 (by rw [hk]; rfl) (by rw [hk]; rfl)]
     unfold YX; rw [hk]; simp [inI]
   rw [heq2]
   simp +decide only [h13, zb, za, zC, hpin, hpin2, go_sem, reduceAdd, reduceMul]
   have hfr := zhq nm
   have hb1 : nm.length <= 140737488355328 := by omega
   have hb2 : nm.length * 16 <= 140737488355328 := by omega
   have hb3 : nm.length + 1 <= 140737488355328 := by omega
   have hb4 : (nm.length + 1) * 16 <= 140737488355328 := by omega
   have htk := yL cS nm
   have hsn := zbt nm x.name
   simp only [cS] at hsn
   refine Tri.fork ze (.one 0 true (.one 2 true (.one 3 true (.one 4 true (.one 7 true (.one 8 true (.three 1 (.two 5 (.two 6 (.one 9 false (.one 10 false (.one 11 false (.one 12 false (.one 13 false .done))))) 9 (.one 6 false (.one 10 false (.one 11 false (.one 12 false (.one 13 false .done)))))) 9 (.one 5 false (.one 6 false (.one 10 false (.one 11 false (.one 12 false (.one 13 false .done))))))) 5 (.two 1 (.two 6 (.one 9 false (.one 10 false (.one 11 false (.one 12 false (.one 13 false .done))))) 9 (.one 6 false (.one 10 false (.one 11 false (.one 12 false (.one 13 false .done)))))) 9 (.one 1 false (.one 6 false (.one 10 false (.one 11 false (.one 12 false (.one 13 false .done))))))) 9 (.two 1 (.one 5 false (.one 6 false (.one 10 false (.one 11 false (.one 12 false (.one 13 false .done)))))) 5 (.one 1 false (.one 6 false (.one 10 false (.one 11 false (.one 12 false (.one 13 false .done)))))))))))))) zL (by kernel_rfl) (fun C2 hC2 => ?_)
   have hp2 := zN hC2 hpin
   simp +decide only [hfr, hb1, hb2, hb3, hb4, htk, hsn, zb, za, zC, hp2, hpin, hpin2, go_sem, reduceAdd, reduceMul]
 | false =>
 cases h14 : x.kind == 14 with
 | true =>
   have heq2 : R = (xn nm x.name && zU p f x.kids[0] nm) := by
     have hk := eq_of_beq h14
     rw [heq, hone2 (by rw [hk]; rfl) (by rw [hk]; rfl)]
     unfold YX; rw [hk]; simp [inI]
   simp +decide only [h13, h14, zb, za, zC, hpin, hpin2, go_sem, reduceAdd, reduceMul]
   focus
     cases hb : bad || !zU p f x.kids[0] nm with
     | true =>
       refine Tri.sched ze [(0, true), (1, false), (2, false), (3, false), (4, false), (5, false), (6, true), (7, true), (8, true), (10, true), (11, true), (9, false), (12, false), (13, false), (14, false), (15, false), (16, false), (17, false)] zL (by kernel_rfl) (fun C2 hC2 => ?_)
       have hp2 := zN hC2 hpin
       have hfin : (bad || !R) = true := by rw [heq2]; rw [Bool.or_eq_true] at hb |-; rcases hb with hb | hb; exact Or.inl hb; right; simp only [Bool.not_eq_true'] at hb |-; rw [hb, Bool.and_false]
       simp +decide only [hb, hfin, zb, za, zC, hp2, hpin, hpin2, go_sem, reduceAdd, reduceMul]
     | false =>
       refine Tri.sched ze [(0, true), (1, false), (2, false), (3, false), (4, false), (5, false), (6, true), (7, true), (8, true), (10, true), (11, true), (9, false), (12, false), (13, false), (14, false), (15, false), (16, false), (17, false)] zL (by kernel_rfl) (fun C2 hC2 => ?_)
       have hp2 := zN hC2 hpin
       obtain ⟨hb1, hb2⟩ := Bool.or_eq_false_iff.1 hb
       have hfin : (bad || !R) = !xn nm x.name := by
         rw [heq2, hb1, Bool.false_or]
         simp only [Bool.not_eq_false'] at hb2
         rw [hb2, Bool.and_true]
       simp +decide only [hb, zb, za, zC, hp2, hpin, hpin2, go_sem, reduceAdd, reduceMul]
       refine zd hhas hp2 ?_
       simp +decide only [hfin, zb, za, zC, hp2, hpin, hpin2, go_sem, reduceAdd, reduceMul]
 | false =>
 cases h15 : x.kind == 15 with
 | true =>
   have heq2 : R = (xn nm x.name && zU p f x.kids[0] nm) := by
     have hk := eq_of_beq h15
     rw [heq, hone2 (by rw [hk]; rfl) (by rw [hk]; rfl)]
     unfold YX; rw [hk]; simp [inI]
   simp +decide only [h13, h14, h15, zb, za, zC, hpin, hpin2, go_sem, reduceAdd, reduceMul]
   focus
     cases hb : bad || !zU p f x.kids[0] nm with
     | true =>
       refine Tri.sched ze [(0, true), (1, false), (2, false), (3, false), (4, false), (5, false), (6, true), (7, true), (8, true), (10, true), (11, true), (9, false), (12, false), (13, false), (14, false), (15, false), (16, false), (17, false)] zL (by kernel_rfl) (fun C2 hC2 => ?_)
       have hp2 := zN hC2 hpin
       have hfin : (bad || !R) = true := by rw [heq2]; rw [Bool.or_eq_true] at hb |-; rcases hb with hb | hb; exact Or.inl hb; right; simp only [Bool.not_eq_true'] at hb |-; rw [hb, Bool.and_false]
       simp +decide only [hb, hfin, zb, za, zC, hp2, hpin, hpin2, go_sem, reduceAdd, reduceMul]
     | false =>
       refine Tri.sched ze [(0, true), (1, false), (2, false), (3, false), (4, false), (5, false), (6, true), (7, true), (8, true), (10, true), (11, true), (9, false), (12, false), (13, false), (14, false), (15, false), (16, false), (17, false)] zL (by kernel_rfl) (fun C2 hC2 => ?_)
       have hp2 := zN hC2 hpin
       obtain ⟨hb1, hb2⟩ := Bool.or_eq_false_iff.1 hb
       have hfin : (bad || !R) = !xn nm x.name := by
         rw [heq2, hb1, Bool.false_or]
         simp only [Bool.not_eq_false'] at hb2
         rw [hb2, Bool.and_true]
       simp +decide only [hb, zb, za, zC, hp2, hpin, hpin2, go_sem, reduceAdd, reduceMul]
       refine zd hhas hp2 ?_
       simp +decide only [hfin, zb, za, zC, hp2, hpin, hpin2, go_sem, reduceAdd, reduceMul]
 | false =>
 have hu : YX x.kind = false := by
   unfold YX
   rw [h14, h15]
   have i2 : inI x.kind 2 6 = false := by
     apply Bool.eq_false_iff.2; intro hh
     have := zu hh
     omega
   rw [i2]; rfl
 rw [hu, Bool.not_false, Bool.true_or, Bool.true_and] at heq
 have hloop : ((x.kind == 16) = true \/ (x.kind == 17) = true) -> ∀ i (hi : i < x.kids.length), 0 < i -> SoundAt Tryz.prog 166 (fun uf => zq 0 [.ro (.bp 2000 0), .ro (.sc (.int .i64 x.kids[i]))]) [(2000, .box (zC p f nm (bad || !(x.kids.take i).all (fun kid => zU p f kid nm))))]
     (fun rs st => rs = [] /\ yh st.ob [(2000, .box (zC p f (ZV p.nodes nm (nAt p.nodes x.kids[i]).kids) (bad || !(x.kids.take (i + 1)).all (fun kid => zU p f kid nm))))]) := fun h67 i hi hi0 => by
   have hs := hblk i hi hi0 h67 (bad || !(x.kids.take i).all (fun kid => zU p f kid nm))
   have hnx : ((bad || !(x.kids.take i).all (fun kid => zU p f kid nm)) || !zU p f x.kids[i] nm) = (bad || !(x.kids.take (i + 1)).all (fun kid => zU p f kid nm)) := by
     rw [zbT hi]
     generalize (x.kids.take i).all (fun kid => zU p f kid nm) = A
     cases bad <;> cases A <;> rfl
   rw [hnx] at hs
   exact hs
 simp only [zC, cI, cB] at hloop
 cases h16 : x.kind == 16 with
 | true =>
   have h67 : (x.kind == 16) = true \/ (x.kind == 17) = true := by simp [h16]
   simp +decide only [h13, h14, h15, h16, zb, za, zC, hpin, hpin2, go_sem, reduceAdd, reduceMul]
   refine Tri.loop (ι := Nat) (fun i => 0 < i /\ i <= x.kids.length) (fun i => ⟨83, [(0, .bp 2000 0), (4, .ip (zg true x) 0), (5, vI i)], [(2000, .box (zC p f nm (bad || !(x.kids.take i).all (fun kid => zU p f kid nm))))]⟩) (fun i => x.kids.length - i) 1 ⟨by omega, by omega⟩ ?_ ?_
   · refine Ent.weak ?_ ?_ ?_ ?_ <;> simp +decide [ht1, subT, subB, zl, zk, zo, St.get, look, vI, vB, vS, cI, cS, cB, zg, za, zC, roI]
   · rintro i ⟨hi0, hi⟩
     refine zf ze _ ?_
     by_cases h' : i < x.kids.length
     · have e : ((i : Int) < (x.kids.length : Int)) = True := by simp [h']
       have hs := hloop h67 i h' hi0
       simp +decide only [e, h', zr _ _ h', zg, Int.natCast_nonneg, vB, vI, zb, za, zC, hpin, hpin2, go_sem, reduceAdd, reduceMul]
       refine zw hs hpin hfull [(2000, 2000)] [] [(2000, 2000)] ⟨rfl, rfl, rfl, rfl⟩ (fun uf => ?_) ?_
       · simp +decide only [zb, za, zC, hpin, hpin2, go_sem, reduceAdd, reduceMul]
       simp +decide only [zb, za, zC, hpin, hpin2, go_sem, reduceAdd, reduceMul]
       refine ⟨i + 1, ⟨by omega, h'⟩, by omega, Ent.weak ?_ ?_ ?_ ?_⟩
       all_goals simp +decide [subT, subB, zl, zk, zo, St.get, look, vI, vB, vS, cI, cS, cB, zg, za, zC, roI, w64s (n := x.kids.length) h' (by omega)]
     · have hil : i = x.kids.length := by omega
       subst hil
       have e : ((x.kids.length : Int) < (x.kids.length : Int)) = False := by simp
       simp +decide only [e, heq, zg, Int.natCast_nonneg, vB, vI, zb, za, zC, hpin, hpin2, go_sem, reduceAdd, reduceMul]
 | false =>
 cases h17 : x.kind == 17 with
 | true =>
   have h67 : (x.kind == 16) = true \/ (x.kind == 17) = true := by simp [h17]
   simp +decide only [h13, h14, h15, h16, h17, zb, za, zC, hpin, hpin2, go_sem, reduceAdd, reduceMul]
   refine Tri.loop (ι := Nat) (fun i => 0 < i /\ i <= x.kids.length) (fun i => ⟨83, [(0, .bp 2000 0), (4, .ip (zg true x) 0), (5, vI i)], [(2000, .box (zC p f nm (bad || !(x.kids.take i).all (fun kid => zU p f kid nm))))]⟩) (fun i => x.kids.length - i) 1 ⟨by omega, by omega⟩ ?_ ?_
   · refine Ent.weak ?_ ?_ ?_ ?_ <;> simp +decide [ht1, subT, subB, zl, zk, zo, St.get, look, vI, vB, vS, cI, cS, cB, zg, za, zC, roI]
   · rintro i ⟨hi0, hi⟩
     refine zf ze _ ?_
     by_cases h' : i < x.kids.length
     · have e : ((i : Int) < (x.kids.length : Int)) = True := by simp [h']
       have hs := hloop h67 i h' hi0
       simp +decide only [e, h', zr _ _ h', zg, Int.natCast_nonneg, vB, vI, zb, za, zC, hpin, hpin2, go_sem, reduceAdd, reduceMul]
       refine zw hs hpin hfull [(2000, 2000)] [] [(2000, 2000)] ⟨rfl, rfl, rfl, rfl⟩ (fun uf => ?_) ?_
       · simp +decide only [zb, za, zC, hpin, hpin2, go_sem, reduceAdd, reduceMul]
       simp +decide only [zb, za, zC, hpin, hpin2, go_sem, reduceAdd, reduceMul]
       refine ⟨i + 1, ⟨by omega, h'⟩, by omega, Ent.weak ?_ ?_ ?_ ?_⟩
       all_goals simp +decide [subT, subB, zl, zk, zo, St.get, look, vI, vB, vS, cI, cS, cB, zg, za, zC, roI, w64s (n := x.kids.length) h' (by omega)]
     · have hil : i = x.kids.length := by omega
       subst hil
       have e : ((x.kids.length : Int) < (x.kids.length : Int)) = False := by simp
       simp +decide only [e, heq, zg, Int.natCast_nonneg, vB, vI, zb, za, zC, hpin, hpin2, go_sem, reduceAdd, reduceMul]
 | false =>
 have hfin := hone2 h16 h17
 rw [hfin] at heq
 simp +decide only [h13, h14, h15, h16, h17, heq, zb, za, zC, hpin, hpin2, go_sem, reduceAdd, reduceMul]
theorem zof (p : ProgramD) (hD : Deep p.nodes) (f : Nat) (hfl : f < p.fns.length) (hf : p.fns.length <= 1048576) (hn : p.nodes.length <= 1048576) (hk : ∀ x ∈ p.nodes, x.kids.length <= 300) (n : Nat) : n < p.nodes.length -> znr p f n /\ zgW p f n := by
 induction n using Nat.strongRecOn with
 | ind n ih =>
 intro hnl
 exact ⟨zoT p hD f hfl hf hn hk n hnl (fun m hm => (ih m hm (by omega)).2), zoA p hD f hk n hnl (fun m hm => (ih m hm (by omega)).1)⟩
def St.nilr (st : St) (o j : Nat) (e : TypeId) : St := match look st.ob o with
 | some (.box cs) => (match cs[j]? with
   | some (.sc (.slice none 0 0)) => st.swap o (.box (cs.set j (.row false e [])))
   | _ => st)
 | _ => st
section
variable {P : Program} {w w1 : World} {C : Cx} {X : Nat -> Prop} {gh gh1 : Gh} {st : St} {a : Act} {v : V} {u : Value} {ob : List (Nat × Ob)} {S : Nat -> Prop} {K : St -> Prop}
theorem Ow.nilr {e : TypeId} {F : Nat -> Prop} (h : Ow P w S (.sc (.slice none 0 0)) u F) : Ow P w S (.row false e []) u F := by
 cases h with
 | sc h =>
   have h1 : Ow P w S (.row false e []) (.slice none 0 0) (fun k => (Value.slice none 0 0).ownBlock = some k \/ ∃ i j d, cellAt ([] : List (List D)) i j = some d /\ (fun _ _ _ => False : Nat -> Nat -> Nat -> Prop) i j k) :=
     Ow.row [] (fun _ _ _ => False) (World.ownsRow_nil w _ e _) (fun l hl => by simp at hl) (fun u hu => by simp at hu) (fun i j d hd => by simp [cellAt] at hd) (fun _ _ _ _ _ _ _ _ _ hh => hh.elim) (fun _ _ _ _ _ hh => hh.elim)
   refine h1.congr (fun k => ?_)
   constructor
   · rintro (hh | ⟨i, j, d, hd, hh⟩)
     · simp [Value.ownBlock] at hh
     · exact hh
   · exact fun hh => hh.elim
theorem Ent.nilr (o j : Nat) (e : TypeId) : Ent P C st (st.nilr o j e) := fun a w gh h => by
 unfold St.nilr
 split
 case h_2 => exact ⟨gh, h⟩
 rename_i cs ho
 split
 case h_2 => exact ⟨gh, h⟩
 rename_i hj
 have hbF : gh.F o (gh.bb o) := by cases h.obs o _ ho with | box xs G hb hl h1 hc hx dis nb hF => exact (hF _).2 (Or.inl rfl)
 refine ⟨_, h.swap (F := gh.F o) ho (by simp [Ob.like]) (Nat.le_refl _) (fun _ _ _ _ _ _ => rfl) (fun _ _ => rfl) (World.keptBut_refl w _) ?_ (fun k hk => Or.inl hk) (fun k hk => ⟨Or.inr hk, h.xF o _ k ho hk⟩) (fun cs' k _ hk he => h.xF o _ k ho hk (he ▸ hbF))⟩
 have hob := h.obs o _ ho
 have g1 : (gh.upd o (gh.hv o) (gh.bb o) (gh.bo o) (gh.F o)).F o = gh.F o := by simp [Gh.upd]
 have g2 : (gh.upd o (gh.hv o) (gh.bb o) (gh.bo o) (gh.F o)).bb o = gh.bb o := by simp [Gh.upd]
 have g3 : (gh.upd o (gh.hv o) (gh.bb o) (gh.bo o) (gh.F o)).bo o = gh.bo o := by simp [Gh.upd]
 cases hob with
 | box xs G hb hl h1 hc hx dis nb hF =>
   have back : ∀ q d, (cs.set j (.row false e []))[q]? = some d -> ∃ d0, cs[q]? = some d0 := fun q d hd => by
     rw [List.getElem?_set] at hd
     split at hd
     · rename_i ejq; subst ejq; exact ⟨_, hj⟩
     · exact ⟨d, hd⟩
   refine ObR.box xs G (by rw [g2]; exact hb) (by rw [List.length_set]; exact hl) h1 (by rw [g2, g3]; exact hc) (fun q d hd => ?_) (fun q q' d d' k hd hd' => ?_) (fun q d k hd hk => ?_) (fun k => ?_)
   · rw [List.getElem?_set] at hd
     split at hd
     · rename_i ejq
       subst ejq
       split at hd
       · cases hd; exact (hx j _ hj).nilr
       · cases hd
     · exact hx q d hd
   · obtain ⟨d0, h0⟩ := back _ _ hd
     obtain ⟨d1, h2⟩ := back _ _ hd'
     exact dis q q' d0 d1 k h0 h2
   · obtain ⟨d0, h0⟩ := back _ _ hd
     rw [g2]; exact nb q d0 k h0 hk
   · rw [g1, g2, hF k]
     constructor
     · rintro (hh | ⟨q, d, hd, hk⟩)
       · exact Or.inl hh
       · right
         by_cases eq : j = q
         · subst eq
           exact ⟨j, .row false e [], by rw [List.getElem?_set_self (List.getElem?_eq_some_iff.1 hd).1], hk⟩
         · exact ⟨q, d, by rw [List.getElem?_set_ne eq]; exact hd, hk⟩
     · rintro (hh | ⟨q, d, hd, hk⟩)
       · exact Or.inl hh
       · obtain ⟨d0, h0⟩ := back _ _ hd
         exact Or.inr ⟨q, d0, h0, hk⟩
end
attribute [go_sem] St.nilr
theorem zce (p : ProgramD) (hf : p.fns.length <= 1048576) (hn : p.nodes.length <= 1048576) (hk : ∀ x ∈ p.nodes, x.kids.length <= 1048576) (hpl : ∀ f ∈ p.fns, f.params.length <= 1048576) : zB Tryz.prog 105 [.ro (zb p)] (fun rs st => rs = [(false, [cB (xe p)])]) := by
 have hps := zeX p hf hn hk hpl
 have hvs := fun fn => zdg p fn hf hn hk hpl
 have hvl := fun fn => Zc p fn hpl hn
 simp only [zb] at hps hvs
 unfold xe
 refine zt (fn := Tryz.f105) (c := Tryz.f105.body.getD .skip) (res := [.tm 2]) (n := 97) ze (by kernel_rfl) (by rfl) (by kernel_rfl) (by rfl) (by rfl) (by simp [zq]) (fun uf ub C hpin hpin2 hfull => ?_)
 simp only [Tryz.f105, Option.getD_some]
 refine Tri.step ze ?_
 simp +decide only [zb, za, zC, hpin, go_sem, reduceAdd, reduceMul]
 refine Tri.ent ?_ (Ent.frb hfull 1)
 refine Tri.step ze ?_
 simp +decide only [zb, za, zC, hpin, go_sem, reduceAdd, reduceMul]
 refine zd hps hpin ?_
 cases h0 : yX p with
 | false => simp +decide only [zb, za, zC, hpin, go_sem, reduceAdd, reduceMul]
 | true =>
 have hG := yz h0
 simp +decide only [zb, za, zC, hpin, go_sem, reduceAdd, reduceMul]
 refine Tri.step ze ?_
 simp +decide only [zb, za, zC, hpin, go_sem, reduceAdd, reduceMul]
 refine Tri.loop (ι := Nat) (fun i => i <= p.fns.length /\ zG (xI p) i = true) (fun i => ⟨97, [(1, .ip (za true p) 0), (2, vB false), (3, vI i)], []⟩) (fun i => p.fns.length - i) 0 ⟨by simp, rfl⟩ ?_ ?_
 · refine Ent.weak ?_ ?_ ?_ ?_ <;> simp +decide [subT, subB, zl, zk, zo, St.get, look, vI, vB, vS, cI, cS, cB, zg, za, zC, roI]
 · rintro i ⟨hi, hq⟩
   refine zf ze _ ?_
   by_cases h' : i < p.fns.length
   · have e : ((i : Int) < (p.fns.length : Int)) = True := by simp [h']
     have hx : (rows (fnC true) p.fns).getD i [] = fnC true p.fns[i] := zi _ _ h'
     have hok := hG.fn i h'
     have hfe : xI p i = (zdS p i && (zU p i p.fns[i].body (parN p.fns[i].params) && (decide (p.fns[i].ret < 0) || zU p i p.fns[i].ret (ZV p.nodes (parN p.fns[i].params) (nAt p.nodes p.fns[i].body).kids)))) := by unfold xI; rw [yE h']
     have hplx := hpl p.fns[i] (List.getElem_mem h')
     have hp3 := zev hok
     obtain ⟨⟨b0, b1⟩, hret⟩ := xp hok
     have hbk : (nAt p.nodes p.fns[i].body).kind == 20 := by
       simp only [ZW, Bool.and_eq_true, Xz] at hok
       exact hok.2.2.2.2.1.2
     have hrk : ¬ p.fns[i].ret < 0 -> yV (nAt p.nodes p.fns[i].ret).kind = true := fun hnr => by
       simp only [ZW, Bool.and_eq_true] at hok
       have hr := hok.2.2.2.2.2
       unfold zcK at hr
       split at hr
       · have := eq_of_beq hr; omega
       · exact (Bool.and_eq_true_iff.1 hr).2
     generalize p.fns[i] = g at hx hok hfe hplx hp3 b0 b1 hret hbk hrk
     have hvs1 := hvs i
     have hvl1 := hvl i
     unfold zdS at hfe
     simp +decide only [e, Int.natCast_nonneg, za, vB, vI, zb, za, zC, hpin, go_sem, reduceAdd, reduceMul]
     refine zd hvs1 hpin ?_
     generalize ZR p i = l at hvl1 hfe |-
     have hva := fun s => ZF l s (by omega)
     have htl := yq (varC false) l
     have htl2 := yq (varC true) l
     simp +decide only [zb, za, zC, hpin, go_sem, reduceAdd, reduceMul]
     refine Tri.loop (ι := Nat) (fun j => j <= l.length /\ zG (zgq l) j = true) (fun j => ⟨97, [(1, .ip (za true p) 0), (2, vB false), (3, vI i), (4, .ref 4 [] l.length), (5, vI j)], [(4, .row 96 (rows (varC false) l))]⟩) (fun j => l.length - j) 0 ⟨by simp, rfl⟩ ?_ ?_
     · refine Ent.weak ?_ ?_ ?_ ?_ <;> simp +decide [subT, subB, zl, zk, zo, St.get, look, vI, vB, vS, cI, cS, cB, zg, za, zC, roI]
     · rintro j ⟨hj, hq2⟩
       refine zf ze _ ?_
       by_cases hj' : j < l.length
       · have e2 : ((j : Int) < (l.length : Int)) = True := by simp [hj']
         have hov : zgq l j = (yg l l[j].name == (j : Int)) := by simp [zgq, List.getD, hj']
         simp +decide only [e2, hj', xy _ _ hj', zi _ _ hj', varC, htl, htl2, Int.natCast_nonneg, vB, vI, zb, za, zC, hpin, go_sem, reduceAdd, reduceMul]
         refine zd (hva l[j].name) hpin ?_
         cases hz : yg l l[j].name == (j : Int) with
         | false =>
           have hff : zG (zgq l) l.length = false := zy hj' (by rw [hov, hz])
           rw [hff, Bool.false_and] at hfe
           have hff2 : zG (xI p) p.fns.length = false := zy h' hfe
           simp +decide only [hz, hff2, bne, htl, htl2, zb, za, zC, hpin, go_sem, reduceAdd, reduceMul]
         | true =>
           simp +decide only [hz, bne, htl, htl2, zb, za, zC, hpin, go_sem, reduceAdd, reduceMul]
           refine ⟨j + 1, ⟨hj', by rw [zM, hq2, hov, hz]; rfl⟩, by omega, Ent.weak ?_ ?_ ?_ ?_⟩
           all_goals simp +decide [subT, subB, zl, zk, zo, St.get, look, vI, vB, vS, cI, cS, cB, zg, za, zC, roI, w64s (n := l.length) hj' (by omega)]
       · have hjl : j = l.length := by omega
         subst hjl
         have e2 : ((l.length : Int) < (l.length : Int)) = False := by simp
         rw [hq2, Bool.true_and] at hfe
         simp +decide only [e2, vB, vI, zb, za, zC, hpin, go_sem, reduceAdd, reduceMul]
         refine Tri.ent ?_ (Ent.nilr 39 3 9)
         simp +decide only [zb, za, zC, hpin, go_sem, reduceAdd, reduceMul]
         refine Tri.last (fun s => St.shb s 39) (fun s => Ent.shb hfull 39) ?_
         refine Tri.loop (ι := Nat) (fun j => j <= g.params.length) (fun j => ⟨97, [(1, .ip (za true p) 0), (2, vB false), (3, vI i), (6, .bp 39 0), (7, vI j)], [(39, .box [.row true 83 (rows (zg true) p.nodes), .row true 104 (rows (fnC true) p.fns), cI i, .row false 9 (row1 cS (parN (g.params.take j))), cB false])]⟩) (fun j => g.params.length - j) 0 (by simp) ?_ ?_
         · refine Ent.weak ?_ ?_ ?_ ?_ <;> simp +decide [subT, subB, zl, zk, zo, St.get, look, vI, vB, vS, cI, cS, cB, zg, za, zC, roI, parN, row1]
         · rintro j hj
           refine zf ze _ ?_
           by_cases hj' : j < g.params.length
           · have e3 : ((j : Int) < (g.params.length : Int)) = True := by simp [hj']
             have hy : (rows (zE true) g.params).getD j [] = zE true g.params[j] := zi _ _ hj'
             have hsn := zhO hj'
             have hll : (parN (g.params.take j)).length <= 3 := by rw [xz, List.length_take]; omega
             have hl2 : (parN (g.params.take (j + 1))).length = (parN (g.params.take j)).length + 1 := by rw [xz, xz, List.length_take, List.length_take]; omega
             have htk := yL cS (parN (g.params.take j))
             have hb1 : (parN (g.params.take j)).length + 1 <= 140737488355328 := by omega
             have hb2 : ((parN (g.params.take j)).length + 1) * 16 <= 140737488355328 := by omega
             simp only [cS] at hsn
             simp +decide only [e, e3, hx, fnC, Int.natCast_nonneg, vB, vI, zb, za, zC, hpin, go_sem, reduceAdd, reduceMul]
             refine Tri.fork ze (.one 0 true (.one 1 true (.one 2 true (.one 3 true (.one 5 true (.one 7 true (.one 11 true (.one 6 true (.one 8 true (.one 9 true (.one 10 true (.one 12 true (.one 13 true (.one 14 true (.two 4 (.one 15 false (.one 16 false (.one 17 false (.one 18 false (.one 19 false .done))))) 15 (.one 4 false (.one 16 false (.one 17 false (.one 18 false (.one 19 false .done)))))))))))))))))))) zL (by kernel_rfl) (fun C2 hC2 => ?_)
             have hp2 := zN hC2 hpin
             simp +decide only [e, e3, hx, hy, zE, fnC, htk, hsn, hb1, hb2, hl2, Int.natCast_nonneg, vB, vI, zb, za, zC, hp2, hpin, go_sem, reduceAdd, reduceMul]
             refine ⟨?_, ?_⟩ <;> refine ⟨j + 1, hj', by omega, Ent.weak ?_ ?_ ?_ ?_⟩
             all_goals simp +decide [subT, subB, zl, zk, zo, St.get, look, vI, vB, vS, cI, cS, cB, zg, za, zC, roI, hl2, w64s (n := g.params.length) hj' (by omega)]
           · have hjl : j = g.params.length := by omega
             subst hjl
             have e3 : ((g.params.length : Int) < (g.params.length : Int)) = False := by simp
             have hnl : (parN g.params).length <= 3 := by rw [xz]; omega
             obtain ⟨b, hbb⟩ : ∃ b : Nat, g.body = b := ⟨g.body.toNat, by omega⟩
             have hbl : b < p.nodes.length := by omega
             have hk3 : ∀ x ∈ p.nodes, x.kids.length <= 300 := fun x hx => by have := hG.deep.few x hx; omega
             have hkf := hG.deep.few p.nodes[b] (List.getElem_mem hbl)
             have hfew := hG.few
             have hblk := (zof p hG.deep i h' hf hn hk3 b hbl).2
             unfold zgW at hblk
             rw [hbb] at hbk hfe
             have hgl := YP p.nodes (nAt p.nodes b).kids (parN g.params)
             rw [zI hbl] at hgl
             have hs1 := hblk hbk (parN g.params) false (by omega)
             rw [zI hbl] at hs1 hfe
             generalize hnm : parN g.params = nm0 at hnl hfe hgl hs1 |-
             generalize ZV p.nodes nm0 p.nodes[b].kids = L at hfe hgl hs1
             have hvs := fun r hr hv => zdi p hG.deep i h' hf hn hk3 L (by omega) r hr hv (false || !zU p i b nm0)
             generalize zU p i b nm0 = B1 at hfe hs1 hvs
             simp only [zC, cI, cB, Bool.false_or] at hs1 hvs
             simp +decide only [e, e3, hx, fnC, hbb, hnm, Int.natCast_nonneg, vB, vI, zb, za, zC, hpin, go_sem, reduceAdd, reduceMul]
             refine zw hs1 hpin hfull [(2000, 39)] [] [(2000, 39)] ⟨rfl, rfl, rfl, rfl⟩ (fun uf => ?_) ?_
             · simp +decide only [zb, za, zC, hpin, go_sem, reduceAdd, reduceMul]
             rcases hret with hneg | ⟨x0, x1⟩
             · have y0 : (0 <= g.ret) = False := eq_false (by omega)
               have y1 : decide (g.ret < 0) = true := decide_eq_true hneg
               rw [y1, Bool.true_or, Bool.and_true] at hfe
               simp +decide only [e, hx, fnC, y0, Int.natCast_nonneg, zb, za, zC, hpin, go_sem, reduceAdd, reduceMul]
               cases B1 with
               | false =>
                 have hff : zG (xI p) p.fns.length = false := zy h' hfe
                 simp +decide only [hff, zb, za, zC, hpin, go_sem, reduceAdd, reduceMul]
               | true =>
                 simp +decide only [zb, za, zC, hpin, go_sem, reduceAdd, reduceMul]
                 refine ⟨i + 1, ⟨h', by rw [zM, hq, hfe]; rfl⟩, by omega, Ent.weak ?_ ?_ ?_ ?_⟩
                 all_goals simp +decide [subT, subB, zl, zk, zo, St.get, look, vI, vB, vS, cI, cS, cB, zg, za, zC, roI, w64s (n := p.fns.length) h' (by omega)]
             · have y0 : (0 <= g.ret) = True := eq_true x0
               have y1 : decide (g.ret < 0) = false := decide_eq_false (by omega)
               rw [y1, Bool.false_or] at hfe
               obtain ⟨r, hrr⟩ : ∃ r : Nat, g.ret = r := ⟨g.ret.toNat, by omega⟩
               have hrl : r < p.nodes.length := by omega
               have hrk2 := hrk (by omega)
               rw [hrr] at hfe hrk2
               have hs2 := hvs r hrl hrk2
               generalize zU p i r L = B2 at hfe hs2
               simp +decide only [e, hx, fnC, y0, hrr, Int.natCast_nonneg, zb, za, zC, hpin, go_sem, reduceAdd, reduceMul]
               refine zw hs2 hpin hfull [(2000, 39)] [] [(2000, 39)] ⟨rfl, rfl, rfl, rfl⟩ (fun uf => ?_) ?_
               · simp +decide only [zb, za, zC, hpin, go_sem, reduceAdd, reduceMul]
               have hB : (!B1 || !B2) = !(B1 && B2) := by cases B1 <;> cases B2 <;> rfl
               rw [hB]
               generalize (B1 && B2) = B3 at hfe |-
               cases B3 with
               | false =>
                 have hff : zG (xI p) p.fns.length = false := zy h' hfe
                 simp +decide only [hff, zb, za, zC, hpin, go_sem, reduceAdd, reduceMul]
               | true =>
                 simp +decide only [zb, za, zC, hpin, go_sem, reduceAdd, reduceMul]
                 refine ⟨i + 1, ⟨h', by rw [zM, hq, hfe]; rfl⟩, by omega, Ent.weak ?_ ?_ ?_ ?_⟩
                 all_goals simp +decide [subT, subB, zl, zk, zo, St.get, look, vI, vB, vS, cI, cS, cB, zg, za, zC, roI, w64s (n := p.fns.length) h' (by omega)]
   · have hil : i = p.fns.length := by omega
     subst hil
     have e : ((p.fns.length : Int) < (p.fns.length : Int)) = False := by simp
     simp +decide only [e, vB, vI, zb, za, zC, hpin, go_sem, reduceAdd, reduceMul]
     refine zf ze _ ?_
     simp +decide only [hq, zb, za, zC, hpin, go_sem, reduceAdd, reduceMul]
theorem zaH {p : ProgramD} (h : zJ p <= 1048576) : ∀ f ∈ p.fns, f.params.length <= 1048576 := by
 unfold zJ at h
 intro f hf
 obtain ⟨i, hi, rfl⟩ := List.getElem_of_mem hf
 have h1 := ZB yc hi
 have h3 : p.fns[i].params.length <= yc p.fns[i] := by unfold yc; omega
 omega
def vAt (l : List VarD) (j : Int) : VarD := l.getD j.toNat vr0
def zaB (l : List VarD) (s : ByteArray) : Int := if yg l s < 0 then 0 else (vAt l (yg l s)).ty
def zio (t : Int) : Bool := t == 2 || (t == 3 || t == 4)
def prTy (ps : List ParamD) (i : Nat) : Int := (ps.map (fun x => x.ty)).getD i 0
def ZP (T : Int -> Int) (p : ProgramD) (x : NodeD) : Bool :=
 decide (0 <= xJ p.fns x.name) && (((fAt p.fns (xJ p.fns x.name)).params.length : Int) == (x.kids.length : Int) && zG (fun i => T (x.kids.getD i 0) == prTy (fAt p.fns (xJ p.fns x.name)).params i) x.kids.length)
def zeT (T : Int -> Int) (p : ProgramD) (l : List VarD) (x : NodeD) : Int :=
 if x.kind == 1 || x.kind == 7 then 1
 else if x.kind == 2 then zaB l x.name
 else if x.kind == 3 then (if zio (zaB l x.name) then 1 else 0)
 else if x.kind == 4 then (if zio (zaB l x.name) then 2 else 0)
 else if x.kind == 5 then (if zaB l x.name == 2 then 3 else 0)
 else if x.kind == 6 then (if zaB l x.name == 2 then 4 else 0)
 else if x.kind == 8 then (if T (x.kids.getD 0 0) == 1 then 2 else 0)
 else if x.kind == 9 || (x.kind == 10 || x.kind == 11) then (if T (x.kids.getD 0 0) == 1 && T (x.kids.getD 1 0) == 1 then 1 else 0)
 else if x.kind == 12 then (if ZP T p x then (fAt p.fns (xJ p.fns x.name)).res else 0)
 else 0
def zlJ (p : ProgramD) (l : List VarD) : Nat -> Int -> Int
 | 0, _ => 0
 | d + 1, k => zeT (zlJ p l d) p l (nAt p.nodes k)
def ye (p : ProgramD) (l : List VarD) (k : Int) : Int := zlJ p l (k.toNat + 1) k
theorem zhH {f g : Nat -> Bool} {n : Nat} (h : ∀ i, i < n -> f i = g i) : zG f n = zG g n := by
 rw [Bool.eq_iff_iff, yN, yN]
 exact ⟨fun hh i hi => by rw [<- h i hi]; exact hh i hi, fun hh i hi => by rw [h i hi]; exact hh i hi⟩
theorem ziD {T U : Int -> Int} (p : ProgramD) (x : NodeD) (h : ∀ kid ∈ x.kids, T kid = U kid) : ZP T p x = ZP U p x := by
 unfold ZP
 congr 2
 apply zhH
 intro i hi
 have hg : x.kids.getD i 0 = x.kids[i] := by simp [List.getD, hi]
 rw [hg, h x.kids[i] (List.getElem_mem hi)]
theorem zdl {T U : Int -> Int} (p : ProgramD) (l : List VarD) (x : NodeD) (hs : inI x.kids.length (zA x.kind).1 (zA x.kind).2 = true) (h : ∀ kid ∈ x.kids, T kid = U kid) : zeT T p l x = zeT U p l x := by
 have hsr := zu hs
 have get : ∀ i, i < x.kids.length -> T (x.kids.getD i 0) = U (x.kids.getD i 0) := fun i hi => by
   have hg : x.kids.getD i 0 = x.kids[i] := by simp [List.getD, hi]
   rw [hg, h x.kids[i] (List.getElem_mem hi)]
 unfold zeT
 rw [ziD p x h]
 by_cases h8 : x.kind = 8
 · rw [h8] at hsr
   have h0 : 0 < x.kids.length := by have := hsr.1; simp [zA] at this; omega
   rw [get 0 h0]
   simp [h8]
 · by_cases h9 : x.kind = 9 \/ x.kind = 10 \/ x.kind = 11
   · have h0 : 1 < x.kids.length := by
       rcases h9 with h9 | h9 | h9 <;> rw [h9] at hsr <;> have := hsr.1 <;> simp [zA] at this <;> omega
     rw [get 0 (by omega), get 1 h0]
   · have e8 : (x.kind == 8) = false := by simpa using h8
     have e9 : (x.kind == 9 || (x.kind == 10 || x.kind == 11)) = false := by
       simp only [Bool.or_eq_false_iff, beq_eq_false_iff_ne]
       exact ⟨fun e => h9 (Or.inl e), fun e => h9 (Or.inr (Or.inl e)), fun e => h9 (Or.inr (Or.inr e))⟩
     rw [e8, e9]
     rfl
theorem zkP {p : ProgramD} (hD : Deep p.nodes) (l : List VarD) : ∀ (d n : Nat), n < p.nodes.length -> n < d -> zlJ p l d n = ye p l n := by
 intro d
 induction d using Nat.strongRecOn with
 | ind d ih =>
 intro n hn hd
 obtain ⟨e, rfl⟩ : ∃ e, d = e + 1 := ⟨d - 1, by omega⟩
 unfold ye
 have e2 : ((n : Int).toNat + 1) = n + 1 := by omega
 rw [e2]
 unfold zlJ
 rw [zI hn]
 apply zdl p l _ (zZ (hD.deep n hn) hn)
 intro kid hk
 obtain ⟨q0, q1, q2⟩ := hD.kid hn kid hk
 obtain ⟨m, rfl⟩ : ∃ m : Nat, kid = m := ⟨kid.toNat, by omega⟩
 have h1 := ih e (by omega) m (by omega) (by omega)
 by_cases hne : n = e
 · subst hne; rfl
 · have h2 := ih n (by omega) m (by omega) (by omega)
   rw [h1, h2]
theorem zgd {p : ProgramD} (hD : Deep p.nodes) (l : List VarD) {n : Nat} (hn : n < p.nodes.length) : ye p l n = zeT (ye p l) p l p.nodes[n] := by
 have e2 : ((n : Int).toNat + 1) = n + 1 := by omega
 unfold ye
 rw [e2]
 conv => lhs; unfold zlJ
 rw [zI hn]
 apply zdl p l _ (zZ (hD.deep n hn) hn)
 intro kid hk
 obtain ⟨q0, q1, q2⟩ := hD.kid hn kid hk
 obtain ⟨m, rfl⟩ : ∃ m : Nat, kid = m := ⟨kid.toNat, by omega⟩
 exact zkP hD l n m (by omega) (by omega)
theorem zcs (l : List VarD) (s : ByteArray) (hl : l.length <= 4194304) : zB Tryz.prog 102 [.ro (.imm 96 (rows (varC true) l)), .ro (.sc (.string s))] (fun rs st => rs = [(false, [cI (zaB l s)])]) := by
 refine zt (fn := Tryz.f102) (c := Tryz.f102.body.getD .skip) (res := [.tm 4]) (n := 16) ze (by kernel_rfl) (by rfl) (by kernel_rfl) (by rfl) (by rfl) (by simp [zq]) (fun uf ub C hpin hpin2 hfull => ?_)
 simp only [Tryz.f102, Option.getD_some]
 have hva := ZG l s hl
 have hrg := YE s l 0
 have hfe : yg l s = zaD s l 0 := rfl
 rw [<- hfe] at hrg
 unfold zaB
 refine Tri.step ze ?_
 simp +decide only [zb, za, hpin, go_sem, reduceAdd, reduceMul]
 refine Tri.step ze ?_
 simp +decide only [zb, za, hpin, go_sem, reduceAdd, reduceMul]
 refine zd hva hpin ?_
 generalize yg l s = at_ at hrg |-
 simp +decide only [zb, za, hpin, go_sem, reduceAdd, reduceMul]
 refine Tri.step ze ?_
 by_cases ha : at_ < 0
 · have c1 : (at_ < 0) = True := eq_true ha
   simp +decide only [c1, zb, za, hpin, go_sem, reduceAdd, reduceMul]
 · have c1 : (at_ < 0) = False := eq_false ha
   obtain ⟨m, rfl⟩ : ∃ m : Nat, at_ = m := ⟨at_.toNat, by omega⟩
   have hml : m < l.length := by rcases hrg with h | h <;> omega
   have c2 : ((m : Int) < (l.length : Int)) = True := eq_true (by omega)
   have hv : vAt l (m : Int) = l[m] := by simp [vAt, List.getD, hml]
   simp +decide only [c1, zb, za, hpin, go_sem, reduceAdd, reduceMul]
   refine zf ze _ ?_
   simp +decide only [c2, hv, zi _ _ hml, varC, Int.natCast_nonneg, zb, za, hpin, go_sem, reduceAdd, reduceMul]
theorem zcr (l : List VarD) (s : ByteArray) (hl : l.length <= 4194304) : zB Tryz.prog 97 [.ro (.imm 96 (rows (varC true) l)), .ro (.sc (.string s))] (fun rs st => rs = [(false, [cI (zaB l s)])]) := by
 refine zt (fn := Tryz.f97) (c := Tryz.f97.body.getD .skip) (res := [.tm 4]) (n := 16) ze (by kernel_rfl) (by rfl) (by kernel_rfl) (by rfl) (by rfl) (by simp [zq]) (fun uf ub C hpin hpin2 hfull => ?_)
 simp only [Tryz.f97, Option.getD_some]
 have hva := ZF l s hl
 have hrg := YE s l 0
 have hfe : yg l s = zaD s l 0 := rfl
 rw [<- hfe] at hrg
 unfold zaB
 refine Tri.step ze ?_
 simp +decide only [zb, za, hpin, go_sem, reduceAdd, reduceMul]
 refine Tri.step ze ?_
 simp +decide only [zb, za, hpin, go_sem, reduceAdd, reduceMul]
 refine zd hva hpin ?_
 generalize yg l s = at_ at hrg |-
 simp +decide only [zb, za, hpin, go_sem, reduceAdd, reduceMul]
 refine Tri.step ze ?_
 by_cases ha : at_ < 0
 · have c1 : (at_ < 0) = True := eq_true ha
   simp +decide only [c1, zb, za, hpin, go_sem, reduceAdd, reduceMul]
 · have c1 : (at_ < 0) = False := eq_false ha
   obtain ⟨m, rfl⟩ : ∃ m : Nat, at_ = m := ⟨at_.toNat, by omega⟩
   have hml : m < l.length := by rcases hrg with h | h <;> omega
   have c2 : ((m : Int) < (l.length : Int)) = True := eq_true (by omega)
   have hv : vAt l (m : Int) = l[m] := by simp [vAt, List.getD, hml]
   simp +decide only [c1, zb, za, hpin, go_sem, reduceAdd, reduceMul]
   refine zf ze _ ?_
   simp +decide only [c2, hv, zi _ _ hml, varC, Int.natCast_nonneg, zb, za, hpin, go_sem, reduceAdd, reduceMul]
theorem zkg {ps : List ParamD} {i : Nat} (h : i < ps.length) : prTy ps i = ps[i].ty := by simp [prTy, List.getD, h]
theorem zbR (p : ProgramD) (l : List VarD) (hl : l.length <= 4194304) (hf : p.fns.length <= 1048576) (hn : p.nodes.length <= 1048576) (hk : ∀ x ∈ p.nodes, x.kids.length <= 300) (n : Nat) (hnl : n < p.nodes.length)
   (ih : ∀ kid ∈ p.nodes[n].kids, zB Tryz.prog 119 [.ro (zb p), .ro (.imm 96 (rows (varC true) l)), .ro (.sc (.int .i64 kid))] (fun rs st => rs = [(false, [cI (ye p l kid)])])) :
   zB Tryz.prog 178 [.ro (zb p), .ro (.imm 96 (rows (varC true) l)), .ro (.sc (.int .i64 n))] (fun rs st => rs = [(false, [cB (ZP (ye p l) p p.nodes[n])])]) := by
 have hkx := hk p.nodes[n] (List.getElem_mem hnl)
 have hx : (rows (zg true) p.nodes).getD n [] = zg true p.nodes[n] := zi _ _ hnl
 have hc1 : ((n : Int) < (p.nodes.length : Int)) = True := eq_true (by omega)
 generalize p.nodes[n] = x at hkx hx ih
 have hfa := XA p x.name hf
 have hrg := ZA x.name p.fns 0
 have hfe : xJ p.fns x.name = zbf x.name p.fns 0 := rfl
 rw [<- hfe] at hrg
 simp only [zb] at hfa ih
 unfold ZP
 refine zt (fn := Tryz.f178) (c := Tryz.f178.body.getD .skip) (res := [.tm 6]) (n := 59) ze (by kernel_rfl) (by rfl) (by kernel_rfl) (by rfl) (by rfl) (by simp [zq]) (fun uf ub C hpin hpin2 hfull => ?_)
 simp only [Tryz.f178, Option.getD_some]
 refine Tri.step ze ?_
 simp +decide only [zb, za, hpin, go_sem, reduceAdd, reduceMul]
 refine Tri.ent ?_ (Ent.frb hfull 3)
 refine Tri.step ze ?_
 simp +decide only [hc1, hx, zg, Int.natCast_nonneg, zb, za, hpin, go_sem, reduceAdd, reduceMul]
 refine Tri.ent ?_ (Ent.frb hfull 7)
 refine Tri.step ze ?_
 simp +decide only [zb, za, hpin, go_sem, reduceAdd, reduceMul]
 refine zd hfa hpin ?_
 generalize xJ p.fns x.name = at_ at hrg |-
 simp +decide only [zb, za, hpin, go_sem, reduceAdd, reduceMul]
 refine Tri.step ze ?_
 refine zf ze _ ?_
 simp +decide only [zb, za, hpin, go_sem, reduceAdd, reduceMul]
 refine Tri.sched ze [(0, false), (1, false), (2, false), (3, true), (5, true), (10, true), (4, true), (6, true), (7, true), (8, true), (9, true), (11, false), (12, false), (13, false), (14, false)] zL (by kernel_rfl) (fun C2 hC2 => ?_)
 have hp2 := zN hC2 hpin
 by_cases ha : at_ < 0
 · have c1 : (at_ < 0) = True := eq_true ha
   have c2 : decide (0 <= at_) = false := decide_eq_false (by omega)
   rcases zet p.fns at_.toNat with ⟨y, hy⟩ | hy
   · simp +decide only [c1, c2, hy, fnC, zg, zb, za, hp2, hpin, go_sem, reduceAdd, reduceMul]
   · simp +decide only [c1, c2, hy, zg, zb, za, hp2, hpin, go_sem, reduceAdd, reduceMul]
 have c1 : (at_ < 0) = False := eq_false ha
 have c2 : decide (0 <= at_) = true := decide_eq_true (by omega)
 obtain ⟨m, rfl⟩ : ∃ m : Nat, at_ = m := ⟨at_.toNat, by omega⟩
 have hml : m < p.fns.length := by rcases hrg with h | h <;> omega
 have hy : (rows (fnC true) p.fns).getD m [] = fnC true p.fns[m] := zi _ _ hml
 have hc2 : ((m : Int) < (p.fns.length : Int)) = True := eq_true (by omega)
 rw [yE hml]
 generalize p.fns[m] = y at hy
 cases hlen : (y.params.length : Int) == (x.kids.length : Int) with
 | false =>
   simp +decide only [c1, c2, hy, hc2, hlen, fnC, zg, bne, Int.natCast_nonneg, zb, za, hp2, hpin, go_sem, reduceAdd, reduceMul]
 | true =>
 have hle := eq_of_beq hlen
 simp +decide only [c1, c2, hy, hc2, hlen, fnC, zg, bne, Int.natCast_nonneg, zb, za, hp2, hpin, go_sem, reduceAdd, reduceMul]
 refine Tri.step ze ?_
 simp +decide only [zg, zb, za, hpin, go_sem, reduceAdd, reduceMul]
 refine Tri.loop (ι := Nat) (fun i => i <= x.kids.length /\ zG (fun i => ye p l (x.kids.getD i 0) == prTy y.params i) i = true) (fun i => ⟨59, [(1, .imm 96 (rows (varC true) l)), (3, .ip (za true p) 0), (6, vB false), (7, .ip (zg true x) 0), (8, vI m), (36, roI x.kids), (37, vI x.kids.length), (38, vI i)], []⟩) (fun i => x.kids.length - i) 0 ⟨by simp, rfl⟩ ?_ ?_
 · refine Ent.weak ?_ ?_ ?_ ?_ <;> simp +decide [subT, subB, zl, zk, zo, St.get, look, vI, vB, vS, cI, cS, cB, zg, za, roI]
 · rintro i ⟨hi, hq⟩
   refine zf ze _ ?_
   by_cases h' : i < x.kids.length
   · have e : ((i : Int) < (x.kids.length : Int)) = True := by simp [h']
     have hip : i < y.params.length := by omega
     have e2 : ((i : Int) < (y.params.length : Int)) = True := eq_true (by omega)
     have hg : x.kids.getD i 0 = x.kids[i] := by simp [List.getD, h']
     have hpt := zkg hip
     have hz : (rows (zE true) y.params).getD i [] = zE true y.params[i] := zi _ _ hip
     have hih := ih x.kids[i] (List.getElem_mem h')
     simp +decide only [e, h', zr _ _ h', Int.natCast_nonneg, zg, za, vB, vI, zb, za, hpin, go_sem, reduceAdd, reduceMul]
     refine Tri.sched ze [(1, true), (2, true), (4, true), (6, true), (10, true), (0, true), (5, true), (7, true), (8, true), (9, true), (11, true), (12, true), (13, true), (3, false), (14, false)] zL (by kernel_rfl) (fun C3 hC3 => ?_)
     have hp3 := zN hC3 hpin
     simp +decide only [e2, hy, hc2, hz, fnC, zE, Int.natCast_nonneg, zb, za, hp3, go_sem, reduceAdd, reduceMul]
     refine zd hih hp3 ?_
     cases hc : ye p l x.kids[i] == y.params[i].ty with
     | false =>
       have hff : zG (fun i => ye p l (x.kids.getD i 0) == prTy y.params i) x.kids.length = false := zy h' (by simp only [hg, hpt, hc])
       simp +decide only [hc, hff, bne, zb, za, hp3, hpin, go_sem, reduceAdd, reduceMul]
     | true =>
       simp +decide only [hc, bne, zb, za, hp3, hpin, go_sem, reduceAdd, reduceMul]
       refine ⟨i + 1, ⟨h', by rw [zM, hq, hg, hpt, hc]; rfl⟩, by omega, Ent.weak ?_ ?_ ?_ ?_⟩
       all_goals simp +decide [subT, subB, zl, zk, zo, St.get, look, vI, vB, vS, cI, cS, cB, zg, za, roI, w64s (n := x.kids.length) h' (by omega)]
   · have hil : i = x.kids.length := by omega
     subst hil
     have e : ((x.kids.length : Int) < (x.kids.length : Int)) = False := by simp
     simp +decide only [e, vB, vI, zb, za, hpin, go_sem, reduceAdd, reduceMul]
     refine zf ze _ ?_
     simp +decide only [hq, zb, za, hpin, go_sem, reduceAdd, reduceMul]
theorem Ys (p : ProgramD) (hD : Deep p.nodes) (l : List VarD) (hl : l.length <= 4194304) (hf : p.fns.length <= 1048576) (hn : p.nodes.length <= 1048576) (hk : ∀ x ∈ p.nodes, x.kids.length <= 300) (n : Nat) : n < p.nodes.length ->
   zB Tryz.prog 119 [.ro (zb p), .ro (.imm 96 (rows (varC true) l)), .ro (.sc (.int .i64 n))] (fun rs st => rs = [(false, [cI (ye p l n)])]) := by
 induction n using Nat.strongRecOn with
 | ind n ih =>
 intro hnl
 have hkid := hD.kid hnl
 have hkx := hk p.nodes[n] (List.getElem_mem hnl)
 have hsh := zu (zZ (hD.deep n hnl) hnl)
 have hrec : ∀ kid ∈ p.nodes[n].kids, zB Tryz.prog 119 [.ro (zb p), .ro (.imm 96 (rows (varC true) l)), .ro (.sc (.int .i64 kid))] (fun rs st => rs = [(false, [cI (ye p l kid)])]) := fun kid hkk => by
   obtain ⟨q0, q1, q2⟩ := hkid kid hkk
   have e : kid = (kid.toNat : Int) := by omega
   have := ih kid.toNat q2 (by omega)
   rw [<- e] at this
   exact this
 have hcr := zbR p l hl hf hn hk n hnl hrec
 have heq := zgd hD l hnl
 have hx : (rows (zg true) p.nodes).getD n [] = zg true p.nodes[n] := zi _ _ hnl
 have hc1 : ((n : Int) < (p.nodes.length : Int)) = True := eq_true (by omega)
 generalize ye p l n = R at heq |-
 generalize p.nodes[n] = x at hkid hkx hsh hrec hcr heq hx
 have hvt := zcs l x.name hl
 have hfa := XA p x.name hf
 simp only [zb] at hfa hrec hcr
 have hrg := ZA x.name p.fns 0
 have hfe : xJ p.fns x.name = zbf x.name p.fns 0 := rfl
 rw [<- hfe] at hrg
 unfold zeT at heq
 generalize zaB l x.name = tv at heq hvt
 refine zt (fn := Tryz.f119) (c := Tryz.f119.body.getD .skip) (res := [.tm 6]) (n := 105) ze (by kernel_rfl) (by rfl) (by kernel_rfl) (by rfl) (by rfl) (by simp [zq]) (fun uf ub C hpin hpin2 hfull => ?_)
 simp only [Tryz.f119, Option.getD_some]
 refine Tri.step ze ?_
 simp +decide only [zb, za, hpin, go_sem, reduceAdd, reduceMul]
 refine Tri.ent ?_ (Ent.frb hfull 3)
 refine Tri.step ze ?_
 simp +decide only [hc1, hx, zg, Int.natCast_nonneg, zb, za, hpin, go_sem, reduceAdd, reduceMul]
 refine Tri.ent ?_ (Ent.frb hfull 7)
 refine Tri.step ze ?_
 simp +decide only [zb, za, hpin, go_sem, reduceAdd, reduceMul]
 refine zd hvt hpin ?_
 simp +decide only [zb, za, hpin, go_sem, reduceAdd, reduceMul]
 refine Tri.step ze ?_
 cases h1 : x.kind == 1 with
 | true =>
   have ek := eq_of_beq h1
   rw [ek] at heq
   simp +decide only [Bool.or_true, Bool.true_or, Bool.or_false, Bool.false_or, if_true, if_false, Int.reduceBEq, Bool.false_eq_true] at heq
   simp +decide only [h1, heq, zg, zb, za, hpin, go_sem, reduceAdd, reduceMul]
 | false =>
 cases h7 : x.kind == 7 with
 | true =>
   have ek := eq_of_beq h7
   rw [ek] at heq
   simp +decide only [Bool.or_true, Bool.true_or, Bool.or_false, Bool.false_or, if_true, if_false, Int.reduceBEq, Bool.false_eq_true] at heq
   simp +decide only [h1, h7, heq, zg, zb, za, hpin, go_sem, reduceAdd, reduceMul]
 | false =>
 cases h2 : x.kind == 2 with
 | true =>
   have ek := eq_of_beq h2
   rw [ek] at heq
   simp +decide only [Bool.or_true, Bool.true_or, Bool.or_false, Bool.false_or, if_true, if_false, Int.reduceBEq, Bool.false_eq_true] at heq
   simp +decide only [h1, h7, h2, heq, zg, zb, za, hpin, go_sem, reduceAdd, reduceMul]
 | false =>
 cases h3 : x.kind == 3 with
 | true =>
   have ek := eq_of_beq h3
   rw [ek] at heq
   simp +decide only [Bool.or_true, Bool.true_or, Bool.or_false, Bool.false_or, if_true, if_false, Int.reduceBEq, Bool.false_eq_true] at heq
   unfold zio at heq
   cases t2 : tv == 2 with
   | true =>
     simp +decide only [t2, Bool.true_or, if_true] at heq
     simp +decide only [h1, h7, h2, h3, t2, heq, zg, zb, za, hpin, go_sem, reduceAdd, reduceMul]
   | false =>
   cases t3 : tv == 3 with
   | true =>
     simp +decide only [t2, t3, Bool.true_or, Bool.false_or, if_true] at heq
     simp +decide only [h1, h7, h2, h3, t2, t3, heq, zg, zb, za, hpin, go_sem, reduceAdd, reduceMul]
   | false =>
   cases t4 : tv == 4 with
   | true =>
     simp +decide only [t2, t3, t4, Bool.true_or, Bool.false_or, if_true] at heq
     simp +decide only [h1, h7, h2, h3, t2, t3, t4, heq, zg, zb, za, hpin, go_sem, reduceAdd, reduceMul]
   | false =>
   simp +decide only [t2, t3, t4, Bool.false_or, if_false, Bool.false_eq_true] at heq
   simp +decide only [h1, h7, h2, h3, t2, t3, t4, zg, zb, za, hpin, go_sem, reduceAdd, reduceMul]
   refine zf ze _ ?_
   simp +decide only [heq, zb, za, hpin, go_sem, reduceAdd, reduceMul]
 | false =>
 cases h4 : x.kind == 4 with
 | true =>
   have ek := eq_of_beq h4
   rw [ek] at heq
   simp +decide only [Bool.or_true, Bool.true_or, Bool.or_false, Bool.false_or, if_true, if_false, Int.reduceBEq, Bool.false_eq_true] at heq
   unfold zio at heq
   cases t2 : tv == 2 with
   | true =>
     simp +decide only [t2, Bool.true_or, if_true] at heq
     simp +decide only [h1, h7, h2, h3, h4, t2, heq, zg, zb, za, hpin, go_sem, reduceAdd, reduceMul]
   | false =>
   cases t3 : tv == 3 with
   | true =>
     simp +decide only [t2, t3, Bool.true_or, Bool.false_or, if_true] at heq
     simp +decide only [h1, h7, h2, h3, h4, t2, t3, heq, zg, zb, za, hpin, go_sem, reduceAdd, reduceMul]
   | false =>
   cases t4 : tv == 4 with
   | true =>
     simp +decide only [t2, t3, t4, Bool.true_or, Bool.false_or, if_true] at heq
     simp +decide only [h1, h7, h2, h3, h4, t2, t3, t4, heq, zg, zb, za, hpin, go_sem, reduceAdd, reduceMul]
   | false =>
   simp +decide only [t2, t3, t4, Bool.false_or, if_false, Bool.false_eq_true] at heq
   simp +decide only [h1, h7, h2, h3, h4, t2, t3, t4, zg, zb, za, hpin, go_sem, reduceAdd, reduceMul]
   refine zf ze _ ?_
   simp +decide only [heq, zb, za, hpin, go_sem, reduceAdd, reduceMul]
 | false =>
 cases h5 : x.kind == 5 with
 | true =>
   have ek := eq_of_beq h5
   rw [ek] at heq
   simp +decide only [Bool.or_true, Bool.true_or, Bool.or_false, Bool.false_or, if_true, if_false, Int.reduceBEq, Bool.false_eq_true] at heq
   cases t2 : tv == 2 with
   | true =>
     simp +decide only [t2, if_true] at heq
     simp +decide only [h1, h7, h2, h3, h4, h5, t2, heq, zg, zb, za, hpin, go_sem, reduceAdd, reduceMul]
   | false =>
   simp +decide only [t2, if_false, Bool.false_eq_true] at heq
   simp +decide only [h1, h7, h2, h3, h4, h5, t2, zg, zb, za, hpin, go_sem, reduceAdd, reduceMul]
   refine zf ze _ ?_
   simp +decide only [heq, zb, za, hpin, go_sem, reduceAdd, reduceMul]
 | false =>
 cases h6 : x.kind == 6 with
 | true =>
   have ek := eq_of_beq h6
   rw [ek] at heq
   simp +decide only [Bool.or_true, Bool.true_or, Bool.or_false, Bool.false_or, if_true, if_false, Int.reduceBEq, Bool.false_eq_true] at heq
   cases t2 : tv == 2 with
   | true =>
     simp +decide only [t2, if_true] at heq
     simp +decide only [h1, h7, h2, h3, h4, h5, h6, t2, heq, zg, zb, za, hpin, go_sem, reduceAdd, reduceMul]
   | false =>
   simp +decide only [t2, if_false, Bool.false_eq_true] at heq
   simp +decide only [h1, h7, h2, h3, h4, h5, h6, t2, zg, zb, za, hpin, go_sem, reduceAdd, reduceMul]
   refine zf ze _ ?_
   simp +decide only [heq, zb, za, hpin, go_sem, reduceAdd, reduceMul]
 | false =>
 cases h8 : x.kind == 8 with
 | true =>
   have ek := eq_of_beq h8
   rw [ek] at heq
   simp +decide only [Bool.or_true, Bool.true_or, Bool.or_false, Bool.false_or, if_true, if_false, Int.reduceBEq, Bool.false_eq_true] at heq
   have hpos : 0 < x.kids.length := by rw [ek] at hsh; have := hsh.1; simp [zA] at this; omega
   have hg0 : (row1 cI x.kids).getD (Int.toNat 0) [] = [cI x.kids[0]] := zr cI x.kids hpos
   have hc0 : ((0 : Int) < (x.kids.length : Int)) = True := eq_true (by omega)
   have hk0 : x.kids.getD 0 0 = x.kids[0] := by simp [List.getD, hpos]
   have hih := hrec x.kids[0] (List.getElem_mem hpos)
   rw [hk0] at heq
   simp only [cI] at hg0
   simp +decide only [h1, h7, h2, h3, h4, h5, h6, h8, zg, zb, za, hpin, go_sem, reduceAdd, reduceMul]
   refine Tri.sched ze [(1, true), (2, true), (0, true), (3, false), (4, false), (5, false), (6, false), (7, false)] zL (by kernel_rfl) (fun C2 hC2 => ?_)
   have hp2 := zN hC2 hpin
   simp +decide only [hg0, hc0, hpos, zb, za, hp2, go_sem, reduceAdd, reduceMul]
   refine zd hih hp2 ?_
   cases hT : ye p l x.kids[0] == 1 with
   | true =>
     simp +decide only [hT, if_true] at heq
     simp +decide only [hT, heq, zb, za, hp2, hpin, go_sem, reduceAdd, reduceMul]
   | false =>
   simp +decide only [hT, if_false, Bool.false_eq_true] at heq
   simp +decide only [hT, zb, za, hp2, hpin, go_sem, reduceAdd, reduceMul]
   refine zf ze _ ?_
   simp +decide only [heq, zb, za, hpin, go_sem, reduceAdd, reduceMul]
 | false =>
 cases h9 : x.kind == 9 with
 | true =>
   have ek := eq_of_beq h9
   rw [ek] at heq
   simp +decide only [Bool.or_true, Bool.true_or, Bool.or_false, Bool.false_or, if_true, if_false, Int.reduceBEq, Bool.false_eq_true] at heq
   have hpos : 1 < x.kids.length := by rw [ek] at hsh; have := hsh.1; simp [zA] at this; omega
   have hg0 : (row1 cI x.kids).getD (Int.toNat 0) [] = [cI (x.kids[0]'(by omega))] := zr cI x.kids (by omega)
   have hg1 : (row1 cI x.kids).getD (Int.toNat 1) [] = [cI x.kids[1]] := zr cI x.kids hpos
   have hc0 : ((0 : Int) < (x.kids.length : Int)) = True := eq_true (by omega)
   have hc01 : ((1 : Int) < (x.kids.length : Int)) = True := eq_true (by omega)
   have hk0 : x.kids.getD 0 0 = x.kids[0]'(by omega) := by simp [List.getD, show 0 < x.kids.length by omega]
   have hk1 : x.kids.getD 1 0 = x.kids[1] := by simp [List.getD, hpos]
   have hih := hrec (x.kids[0]'(by omega)) (List.getElem_mem _)
   have hih1 := hrec x.kids[1] (List.getElem_mem hpos)
   rw [hk0, hk1] at heq
   simp only [cI] at hg0 hg1
   simp +decide only [h1, h7, h2, h3, h4, h5, h6, h8, h9, zg, zb, za, hpin, go_sem, reduceAdd, reduceMul]
   refine Tri.sched ze [(1, true), (2, true), (0, true), (3, false), (4, false), (5, false), (6, false), (7, false), (8, false), (10, true), (11, true), (9, true), (12, false), (13, false), (14, false), (15, false), (16, false), (17, false)] zL (by kernel_rfl) (fun C2 hC2 => ?_)
   have hp2 := zN hC2 hpin
   simp +decide only [hg0, hc0, hpos, zb, za, hp2, go_sem, reduceAdd, reduceMul]
   refine zd hih hp2 ?_
   cases hT : ye p l (x.kids[0]'(by omega)) == 1 with
   | false =>
     simp +decide only [hT, Bool.false_and, if_false, Bool.false_eq_true] at heq
     simp +decide only [hT, hg0, hg1, hc0, hc01, hpos, zb, za, hp2, hpin, go_sem, reduceAdd, reduceMul]
     refine zf ze _ ?_
     simp +decide only [heq, zb, za, hpin, go_sem, reduceAdd, reduceMul]
   | true =>
   simp +decide only [hT, hg0, hg1, hc0, hc01, hpos, zb, za, hp2, go_sem, reduceAdd, reduceMul]
   refine zd hih1 hp2 ?_
   cases hT1 : ye p l x.kids[1] == 1 with
   | true =>
     simp +decide only [hT, hT1, Bool.true_and, if_true] at heq
     simp +decide only [hT1, heq, zb, za, hp2, hpin, go_sem, reduceAdd, reduceMul]
   | false =>
   simp +decide only [hT, hT1, Bool.true_and, if_false, Bool.false_eq_true] at heq
   simp +decide only [hT1, zb, za, hp2, hpin, go_sem, reduceAdd, reduceMul]
   refine zf ze _ ?_
   simp +decide only [heq, zb, za, hpin, go_sem, reduceAdd, reduceMul]
 | false =>
 cases h10 : x.kind == 10 with
 | true =>
   have ek := eq_of_beq h10
   rw [ek] at heq
   simp +decide only [Bool.or_true, Bool.true_or, Bool.or_false, Bool.false_or, if_true, if_false, Int.reduceBEq, Bool.false_eq_true] at heq
   have hpos : 1 < x.kids.length := by rw [ek] at hsh; have := hsh.1; simp [zA] at this; omega
   have hg0 : (row1 cI x.kids).getD (Int.toNat 0) [] = [cI (x.kids[0]'(by omega))] := zr cI x.kids (by omega)
   have hg1 : (row1 cI x.kids).getD (Int.toNat 1) [] = [cI x.kids[1]] := zr cI x.kids hpos
   have hc0 : ((0 : Int) < (x.kids.length : Int)) = True := eq_true (by omega)
   have hc01 : ((1 : Int) < (x.kids.length : Int)) = True := eq_true (by omega)
   have hk0 : x.kids.getD 0 0 = x.kids[0]'(by omega) := by simp [List.getD, show 0 < x.kids.length by omega]
   have hk1 : x.kids.getD 1 0 = x.kids[1] := by simp [List.getD, hpos]
   have hih := hrec (x.kids[0]'(by omega)) (List.getElem_mem _)
   have hih1 := hrec x.kids[1] (List.getElem_mem hpos)
   rw [hk0, hk1] at heq
   simp only [cI] at hg0 hg1
   simp +decide only [h1, h7, h2, h3, h4, h5, h6, h8, h9, h10, zg, zb, za, hpin, go_sem, reduceAdd, reduceMul]
   refine Tri.sched ze [(1, true), (2, true), (0, true), (3, false), (4, false), (5, false), (6, false), (7, false), (8, false), (10, true), (11, true), (9, true), (12, false), (13, false), (14, false), (15, false), (16, false), (17, false)] zL (by kernel_rfl) (fun C2 hC2 => ?_)
   have hp2 := zN hC2 hpin
   simp +decide only [hg0, hc0, hpos, zb, za, hp2, go_sem, reduceAdd, reduceMul]
   refine zd hih hp2 ?_
   cases hT : ye p l (x.kids[0]'(by omega)) == 1 with
   | false =>
     simp +decide only [hT, Bool.false_and, if_false, Bool.false_eq_true] at heq
     simp +decide only [hT, hg0, hg1, hc0, hc01, hpos, zb, za, hp2, hpin, go_sem, reduceAdd, reduceMul]
     refine zf ze _ ?_
     simp +decide only [heq, zb, za, hpin, go_sem, reduceAdd, reduceMul]
   | true =>
   simp +decide only [hT, hg0, hg1, hc0, hc01, hpos, zb, za, hp2, go_sem, reduceAdd, reduceMul]
   refine zd hih1 hp2 ?_
   cases hT1 : ye p l x.kids[1] == 1 with
   | true =>
     simp +decide only [hT, hT1, Bool.true_and, if_true] at heq
     simp +decide only [hT1, heq, zb, za, hp2, hpin, go_sem, reduceAdd, reduceMul]
   | false =>
   simp +decide only [hT, hT1, Bool.true_and, if_false, Bool.false_eq_true] at heq
   simp +decide only [hT1, zb, za, hp2, hpin, go_sem, reduceAdd, reduceMul]
   refine zf ze _ ?_
   simp +decide only [heq, zb, za, hpin, go_sem, reduceAdd, reduceMul]
 | false =>
 cases h11 : x.kind == 11 with
 | true =>
   have ek := eq_of_beq h11
   rw [ek] at heq
   simp +decide only [Bool.or_true, Bool.true_or, Bool.or_false, Bool.false_or, if_true, if_false, Int.reduceBEq, Bool.false_eq_true] at heq
   have hpos : 1 < x.kids.length := by rw [ek] at hsh; have := hsh.1; simp [zA] at this; omega
   have hg0 : (row1 cI x.kids).getD (Int.toNat 0) [] = [cI (x.kids[0]'(by omega))] := zr cI x.kids (by omega)
   have hg1 : (row1 cI x.kids).getD (Int.toNat 1) [] = [cI x.kids[1]] := zr cI x.kids hpos
   have hc0 : ((0 : Int) < (x.kids.length : Int)) = True := eq_true (by omega)
   have hc01 : ((1 : Int) < (x.kids.length : Int)) = True := eq_true (by omega)
   have hk0 : x.kids.getD 0 0 = x.kids[0]'(by omega) := by simp [List.getD, show 0 < x.kids.length by omega]
   have hk1 : x.kids.getD 1 0 = x.kids[1] := by simp [List.getD, hpos]
   have hih := hrec (x.kids[0]'(by omega)) (List.getElem_mem _)
   have hih1 := hrec x.kids[1] (List.getElem_mem hpos)
   rw [hk0, hk1] at heq
   simp only [cI] at hg0 hg1
   simp +decide only [h1, h7, h2, h3, h4, h5, h6, h8, h9, h10, h11, zg, zb, za, hpin, go_sem, reduceAdd, reduceMul]
   refine Tri.sched ze [(1, true), (2, true), (0, true), (3, false), (4, false), (5, false), (6, false), (7, false), (8, false), (10, true), (11, true), (9, true), (12, false), (13, false), (14, false), (15, false), (16, false), (17, false)] zL (by kernel_rfl) (fun C2 hC2 => ?_)
   have hp2 := zN hC2 hpin
   simp +decide only [hg0, hc0, hpos, zb, za, hp2, go_sem, reduceAdd, reduceMul]
   refine zd hih hp2 ?_
   cases hT : ye p l (x.kids[0]'(by omega)) == 1 with
   | false =>
     simp +decide only [hT, Bool.false_and, if_false, Bool.false_eq_true] at heq
     simp +decide only [hT, hg0, hg1, hc0, hc01, hpos, zb, za, hp2, hpin, go_sem, reduceAdd, reduceMul]
     refine zf ze _ ?_
     simp +decide only [heq, zb, za, hpin, go_sem, reduceAdd, reduceMul]
   | true =>
   simp +decide only [hT, hg0, hg1, hc0, hc01, hpos, zb, za, hp2, go_sem, reduceAdd, reduceMul]
   refine zd hih1 hp2 ?_
   cases hT1 : ye p l x.kids[1] == 1 with
   | true =>
     simp +decide only [hT, hT1, Bool.true_and, if_true] at heq
     simp +decide only [hT1, heq, zb, za, hp2, hpin, go_sem, reduceAdd, reduceMul]
   | false =>
   simp +decide only [hT, hT1, Bool.true_and, if_false, Bool.false_eq_true] at heq
   simp +decide only [hT1, zb, za, hp2, hpin, go_sem, reduceAdd, reduceMul]
   refine zf ze _ ?_
   simp +decide only [heq, zb, za, hpin, go_sem, reduceAdd, reduceMul]
 | false =>
 cases h12 : x.kind == 12 with
 | true =>
   have ek := eq_of_beq h12
   rw [ek] at heq
   simp +decide only [Bool.or_true, Bool.true_or, Bool.or_false, Bool.false_or, if_true, if_false, Int.reduceBEq, Bool.false_eq_true] at heq
   simp +decide only [h1, h7, h2, h3, h4, h5, h6, h8, h9, h10, h11, h12, zg, zb, za, hpin, go_sem, reduceAdd, reduceMul]
   refine zd hcr hpin ?_
   cases hc : ZP (ye p l) p x with
   | false =>
     simp +decide only [hc, if_false, Bool.false_eq_true] at heq
     simp +decide only [zb, za, hpin, go_sem, reduceAdd, reduceMul]
     refine zf ze _ ?_
     simp +decide only [heq, zb, za, hpin, go_sem, reduceAdd, reduceMul]
   | true =>
   simp +decide only [hc, if_true] at heq
   have hge : 0 <= xJ p.fns x.name := by
     unfold ZP at hc
     exact of_decide_eq_true (Bool.and_eq_true_iff.1 hc).1
   simp +decide only [zb, za, hpin, go_sem, reduceAdd, reduceMul]
   refine Tri.sched ze [(0, true), (3, true), (1, true), (2, true), (4, false), (5, false), (6, false), (7, false), (8, false), (9, false)] zL (by kernel_rfl) (fun C2 hC2 => ?_)
   have hp2 := zN hC2 hpin
   simp +decide only [zb, za, hp2, go_sem, reduceAdd, reduceMul]
   refine zd hfa hp2 ?_
   generalize xJ p.fns x.name = at_ at hrg hge heq |-
   obtain ⟨m, rfl⟩ : ∃ m : Nat, at_ = m := ⟨at_.toNat, by omega⟩
   have hml : m < p.fns.length := by rcases hrg with h | h <;> omega
   have hy : (rows (fnC true) p.fns).getD m [] = fnC true p.fns[m] := zi _ _ hml
   have hc2 : ((m : Int) < (p.fns.length : Int)) = True := eq_true (by omega)
   rw [yE hml] at heq
   simp +decide only [hy, hc2, heq, fnC, Int.natCast_nonneg, zb, za, hp2, hpin, go_sem, reduceAdd, reduceMul]
 | false =>
 simp +decide only [h1, h7, h2, h3, h4, h5, h6, h8, h9, h10, h11, h12, Bool.or_false, Bool.false_or, if_false, Bool.false_eq_true] at heq
 simp +decide only [h1, h7, h2, h3, h4, h5, h6, h8, h9, h10, h11, h12, zg, zb, za, hpin, go_sem, reduceAdd, reduceMul]
 refine zf ze _ ?_
 simp +decide only [heq, zb, za, hpin, go_sem, reduceAdd, reduceMul]
section
variable {P : Program} {w w1 : World} {C : Cx} {X : Nat -> Prop} {gh gh1 : Gh} {st : St} {a : Act} {v : V} {u : Value} {ob : List (Nat × Ob)} {S : Nat -> Prop} {K : St -> Prop}
theorem Ow.plainc {e : TypeId} {es : List (List D)} {F : Nat -> Prop} (h : Ow P w S (.row true e es) u F) : Ow P w S (.sc u) u F := by
 cases h with
 | shared h => exact .sc h.one
theorem Tri.plain (o j : Nat) {cs : List D} {e : TypeId} {es : List (List D)} {c : Code} {Q : Exit -> St -> Prop} (ho : look st.ob o = some (.box cs)) (hj : cs[j]? = some (.row true e es)) (hh : ∀ z : Value, Tri P C (st.swap o (.box (cs.set j (.sc z)))) c Q) : Tri P C st c Q := fun a w gh h => by
 have hbF : gh.F o (gh.bb o) := by cases h.obs o _ ho with | box xs G hb hl h1 hc hx dis nb hF => exact (hF _).2 (Or.inl rfl)
 have hob := h.obs o _ ho
 have g1 : (gh.upd o (gh.hv o) (gh.bb o) (gh.bo o) (gh.F o)).F o = gh.F o := by simp [Gh.upd]
 have g2 : (gh.upd o (gh.hv o) (gh.bb o) (gh.bo o) (gh.F o)).bb o = gh.bb o := by simp [Gh.upd]
 have g3 : (gh.upd o (gh.hv o) (gh.bb o) (gh.bo o) (gh.F o)).bo o = gh.bo o := by simp [Gh.upd]
 cases hob with
 | box xs G hb hl h1 hc hx dis nb hF =>
   refine hh (xs.getD j undef) a w _ (h.swap (F := gh.F o) ho (by simp [Ob.like]) (Nat.le_refl _) (fun _ _ _ _ _ _ => rfl) (fun _ _ => rfl) (World.keptBut_refl w _) ?_ (fun k hk => Or.inl hk) (fun k hk => ⟨Or.inr hk, h.xF o _ k ho hk⟩) (fun cs' k _ hk he => h.xF o _ k ho hk (he ▸ hbF)))
   have back : ∀ q d, (cs.set j (.sc (xs.getD j undef)))[q]? = some d -> ∃ d0, cs[q]? = some d0 := fun q d hd => by
     rw [List.getElem?_set] at hd
     split at hd
     · rename_i ejq; subst ejq; exact ⟨_, hj⟩
     · exact ⟨d, hd⟩
   refine ObR.box xs G (by rw [g2]; exact hb) (by rw [List.length_set]; exact hl) h1 (by rw [g2, g3]; exact hc) (fun q d hd => ?_) (fun q q' d d' k hd hd' => ?_) (fun q d k hd hk => ?_) (fun k => ?_)
   · rw [List.getElem?_set] at hd
     split at hd
     · rename_i ejq
       subst ejq
       split at hd
       · cases hd; exact (hx j _ hj).plainc
       · cases hd
     · exact hx q d hd
   · obtain ⟨d0, h0⟩ := back _ _ hd
     obtain ⟨d1, h2⟩ := back _ _ hd'
     exact dis q q' d0 d1 k h0 h2
   · obtain ⟨d0, h0⟩ := back _ _ hd
     rw [g2]; exact nb q d0 k h0 hk
   · rw [g1, g2, hF k]
     constructor
     · rintro (hh | ⟨q, d, hd, hk⟩)
       · exact Or.inl hh
       · right
         by_cases eq : j = q
         · subst eq
           exact ⟨j, .sc (xs.getD j undef), by rw [List.getElem?_set_self (List.getElem?_eq_some_iff.1 hd).1], hk⟩
         · exact ⟨q, d, by rw [List.getElem?_set_ne eq]; exact hd, hk⟩
     · rintro (hh | ⟨q, d, hd, hk⟩)
       · exact Or.inl hh
       · obtain ⟨d0, h0⟩ := back _ _ hd
         exact Or.inr ⟨q, d0, h0, hk⟩
end
theorem zpZ (p : ProgramD) (l : List VarD) (n : Nat) (hnl : n < p.nodes.length) (hpos : 1 < p.nodes[n].kids.length)
   (ih : ∀ kid ∈ p.nodes[n].kids, zB Tryz.prog 58 [.ro (zb p), .ro (.imm 96 (rows (varC true) l)), .ro (.sc (.int .i64 kid))] (fun rs st => rs = [(false, [cI (ye p l kid)])])) :
   zB Tryz.prog 136 [.ro (zb p), .ro (.imm 96 (rows (varC true) l)), .ro (.sc (.int .i64 n))] (fun rs st => rs = [(false, [cB (ye p l (p.nodes[n].kids.getD 0 0) == 1 && ye p l (p.nodes[n].kids.getD 1 0) == 1)])]) := by
 have hx : (rows (zg true) p.nodes).getD n [] = zg true p.nodes[n] := zi _ _ hnl
 have hc1 : ((n : Int) < (p.nodes.length : Int)) = True := eq_true (by omega)
 generalize p.nodes[n] = x at hx ih hpos |-
 have hk0 : x.kids.getD 0 0 = x.kids[0]'(by omega) := by simp [List.getD, show 0 < x.kids.length by omega]
 have hk1 : x.kids.getD 1 0 = x.kids[1] := by simp [List.getD, hpos]
 rw [hk0, hk1]
 have hg0 : (row1 cI x.kids).getD (Int.toNat 0) [] = [cI (x.kids[0]'(by omega))] := zr cI x.kids (by omega)
 have hg1 : (row1 cI x.kids).getD (Int.toNat 1) [] = [cI x.kids[1]] := zr cI x.kids hpos
 have hc0 : ((0 : Int) < (x.kids.length : Int)) = True := eq_true (by omega)
 have hc01 : ((1 : Int) < (x.kids.length : Int)) = True := eq_true (by omega)
 have hih := ih (x.kids[0]'(by omega)) (List.getElem_mem _)
 have hih1 := ih x.kids[1] (List.getElem_mem hpos)
 simp only [cI] at hg0 hg1
 simp only [zb] at hih hih1
 refine zt (fn := Tryz.f136) (c := Tryz.f136.body.getD .skip) (res := [.tm 6]) (n := 31) ze (by kernel_rfl) (by rfl) (by kernel_rfl) (by rfl) (by rfl) (by simp [zq]) (fun uf ub C hpin hpin2 hfull => ?_)
 simp only [Tryz.f136, Option.getD_some]
 refine Tri.step ze ?_
 simp +decide only [zb, za, hpin, go_sem, reduceAdd, reduceMul]
 refine Tri.ent ?_ (Ent.frb hfull 3)
 refine Tri.step ze ?_
 simp +decide only [hc1, hx, zg, Int.natCast_nonneg, zb, za, hpin, go_sem, reduceAdd, reduceMul]
 refine Tri.ent ?_ (Ent.frb hfull 7)
 refine Tri.step ze ?_
 simp +decide only [zb, za, hpin, go_sem, reduceAdd, reduceMul]
 refine Tri.sched ze [(1, true), (2, true), (0, true), (3, false), (4, false), (5, false), (6, false), (7, false), (8, false), (10, true), (11, true), (9, true), (12, false), (13, false), (14, false), (15, false), (16, false), (17, false), (18, false)] zL (by kernel_rfl) (fun C2 hC2 => ?_)
 have hp2 := zN hC2 hpin
 simp +decide only [hg0, hc0, hpos, zg, zb, za, hp2, go_sem, reduceAdd, reduceMul]
 refine zd hih hp2 ?_
 cases hT : ye p l (x.kids[0]'(by omega)) == 1 with
 | false =>
   simp +decide only [hT, hg0, hg1, hc0, hc01, hpos, zb, za, hp2, hpin, go_sem, reduceAdd, reduceMul]
   refine zf ze _ ?_
   simp +decide only [zb, za, hpin, go_sem, reduceAdd, reduceMul]
 | true =>
 simp +decide only [hT, hg0, hg1, hc0, hc01, hpos, zb, za, hp2, go_sem, reduceAdd, reduceMul]
 refine zd hih1 hp2 ?_
 simp +decide only [zb, za, hp2, hpin, go_sem, reduceAdd, reduceMul]
 refine zf ze _ ?_
 simp +decide only [zb, za, hpin, go_sem, reduceAdd, reduceMul]
def sigR (ok : Bool) (q : ByteArray × Value × Int × Int × Int) : List RV := [(true, [cS q.1, .sc q.2.1, cI q.2.2.1, cI q.2.2.2.1, cI q.2.2.2.2]), (false, [cB ok])]
theorem zoI (p : ProgramD) (l : List VarD) (hf : p.fns.length <= 1048576) (hk : ∀ x ∈ p.nodes, x.kids.length <= 300) (n : Nat) (hnl : n < p.nodes.length)
   (ih : ∀ kid ∈ p.nodes[n].kids, zB Tryz.prog 58 [.ro (zb p), .ro (.imm 96 (rows (varC true) l)), .ro (.sc (.int .i64 kid))] (fun rs st => rs = [(false, [cI (ye p l kid)])])) :
   zB Tryz.prog 137 [.ro (zb p), .ro (.imm 96 (rows (varC true) l)), .ro (.sc (.int .i64 n))] (fun rs st => ∃ q, (ZP (ye p l) p p.nodes[n] = true -> q.2.2.1 = (fAt p.fns (xJ p.fns p.nodes[n].name)).res) /\ rs = sigR (ZP (ye p l) p p.nodes[n]) q) := by
 have hkx := hk p.nodes[n] (List.getElem_mem hnl)
 have hx : (rows (zg true) p.nodes).getD n [] = zg true p.nodes[n] := zi _ _ hnl
 have hc1 : ((n : Int) < (p.nodes.length : Int)) = True := eq_true (by omega)
 generalize p.nodes[n] = x at hkx hx ih
 have hfa := zbe p x.name hf
 have hrg := ZA x.name p.fns 0
 have hfe : xJ p.fns x.name = zbf x.name p.fns 0 := rfl
 rw [<- hfe] at hrg
 simp only [zb] at hfa ih
 unfold ZP
 refine zt (fn := Tryz.f137) (c := Tryz.f137.body.getD .skip) (res := [.ce 6 104, .tm 7]) (n := 68) ze (by kernel_rfl) (by rfl) (by kernel_rfl) (by rfl) (by rfl) (by simp [zq]) (fun uf ub C hpin hpin2 hfull => ?_)
 simp only [Tryz.f137, Option.getD_some]
 refine Tri.step ze ?_
 simp +decide only [zb, za, hpin, go_sem, reduceAdd, reduceMul]
 refine Tri.ent ?_ (Ent.frb hfull 3)
 refine Tri.step ze ?_
 simp +decide only [hc1, hx, zg, Int.natCast_nonneg, zb, za, hpin, go_sem, reduceAdd, reduceMul]
 refine Tri.ent ?_ (Ent.frb hfull 8)
 refine Tri.step ze ?_
 simp +decide only [zb, za, hpin, go_sem, reduceAdd, reduceMul]
 refine zd hfa hpin ?_
 generalize xJ p.fns x.name = at_ at hrg |-
 simp +decide only [zb, za, hpin, go_sem, reduceAdd, reduceMul]
 refine Tri.step ze ?_
 refine zf ze _ ?_
 simp +decide only [zb, za, hpin, go_sem, reduceAdd, reduceMul]
 refine Tri.sched ze [(0, false), (1, false), (2, false), (3, true), (5, true), (10, true), (4, true), (6, true), (7, true), (8, true), (9, true), (11, false), (12, false), (13, false), (14, false)] zL (by kernel_rfl) (fun C2 hC2 => ?_)
 have hp2 := zN hC2 hpin
 by_cases ha : at_ < 0
 · have c1 : (at_ < 0) = True := eq_true ha
   have c2 : decide (0 <= at_) = false := decide_eq_false (by omega)
   rcases zet p.fns at_.toNat with ⟨y, hy⟩ | hy
   · simp +decide only [c1, c2, hy, fnC, zg, zb, za, hp2, hpin, go_sem, reduceAdd, reduceMul]
     exact ⟨(⟨#[]⟩, .slice none 0 0, 0, 0, 0), fun hh => absurd hh.1 (by omega), rfl⟩
   · simp +decide only [c1, c2, hy, zg, zb, za, hp2, hpin, go_sem, reduceAdd, reduceMul]
     exact ⟨(⟨#[]⟩, .slice none 0 0, 0, 0, 0), fun hh => absurd hh.1 (by omega), rfl⟩
 have c1 : (at_ < 0) = False := eq_false ha
 have c2 : decide (0 <= at_) = true := decide_eq_true (by omega)
 obtain ⟨m, rfl⟩ : ∃ m : Nat, at_ = m := ⟨at_.toNat, by omega⟩
 have hml : m < p.fns.length := by rcases hrg with h | h <;> omega
 have hy : (rows (fnC true) p.fns).getD m [] = fnC true p.fns[m] := zi _ _ hml
 have hc2 : ((m : Int) < (p.fns.length : Int)) = True := eq_true (by omega)
 rw [yE hml]
 generalize p.fns[m] = y at hy
 cases hlen : (y.params.length : Int) == (x.kids.length : Int) with
 | false =>
   simp +decide only [c1, c2, hy, hc2, hlen, fnC, zg, bne, Int.natCast_nonneg, zb, za, hp2, hpin, go_sem, reduceAdd, reduceMul]
   exact ⟨(⟨#[]⟩, .slice none 0 0, 0, 0, 0), fun hh => absurd hh.1 (by simpa using hlen), rfl⟩
 | true =>
 have hle := eq_of_beq hlen
 simp +decide only [c1, c2, hy, hc2, hlen, fnC, zg, bne, Int.natCast_nonneg, zb, za, hp2, hpin, go_sem, reduceAdd, reduceMul]
 refine Tri.step ze ?_
 simp +decide only [zg, zb, za, hpin, go_sem, reduceAdd, reduceMul]
 refine Tri.loop (ι := Nat) (fun i => i <= x.kids.length /\ zG (fun i => ye p l (x.kids.getD i 0) == prTy y.params i) i = true) (fun i => ⟨68, [(1, .imm 96 (rows (varC true) l)), (3, .ip (za true p) 0), (6, .bp 6 0), (7, vB false), (8, .ip (zg true x) 0), (9, vI m), (10, vI i)], [(6, .box [.sc (.string ⟨#[]⟩), .sc (.slice none 0 0), cI 0, cI 0, cI 0])]⟩) (fun i => x.kids.length - i) 0 ⟨by simp, rfl⟩ ?_ ?_
 · refine Ent.weak ?_ ?_ ?_ ?_ <;> simp +decide [subT, subB, zl, zk, zo, St.get, look, vI, vB, vS, cI, cS, cB, zg, za, roI]
 · rintro i ⟨hi, hq⟩
   refine zf ze _ ?_
   by_cases h' : i < x.kids.length
   · have e : ((i : Int) < (x.kids.length : Int)) = True := by simp [h']
     have hip : i < y.params.length := by omega
     have e2 : ((i : Int) < (y.params.length : Int)) = True := eq_true (by omega)
     have hg : x.kids.getD i 0 = x.kids[i] := by simp [List.getD, h']
     have hpt := zkg hip
     have hz : (rows (zE true) y.params).getD i [] = zE true y.params[i] := zi _ _ hip
     have hih := ih x.kids[i] (List.getElem_mem h')
     simp +decide only [e, zg, za, vB, vI, zb, za, hpin, go_sem, reduceAdd, reduceMul]
     refine Tri.sched ze [(1, true), (2, true), (4, true), (8, true), (10, true), (14, true), (0, true), (3, true), (5, true), (6, true), (9, true), (11, true), (12, true), (13, true), (15, true), (16, true), (17, true), (7, false), (18, false)] zL (by kernel_rfl) (fun C3 hC3 => ?_)
     have hp3 := zN hC3 hpin
     simp +decide only [e, e2, h', zr _ _ h', hy, hc2, hz, fnC, zE, Int.natCast_nonneg, zb, za, hp3, go_sem, reduceAdd, reduceMul]
     refine zd hih hp3 ?_
     cases hc : ye p l x.kids[i] == y.params[i].ty with
     | false =>
       have hff : zG (fun i => ye p l (x.kids.getD i 0) == prTy y.params i) x.kids.length = false := zy h' (by simp only [hg, hpt, hc])
       simp +decide only [hc, hff, bne, zb, za, hp3, hpin, go_sem, reduceAdd, reduceMul]
       exact ⟨(⟨#[]⟩, .slice none 0 0, 0, 0, 0), rfl⟩
     | true =>
       simp +decide only [hc, bne, zb, za, hp3, hpin, go_sem, reduceAdd, reduceMul]
       refine ⟨i + 1, ⟨h', by rw [zM, hq, hg, hpt, hc]; rfl⟩, by omega, Ent.weak ?_ ?_ ?_ ?_⟩
       all_goals simp +decide [subT, subB, zl, zk, zo, St.get, look, vI, vB, vS, cI, cS, cB, zg, za, roI, w64s (n := x.kids.length) h' (by omega)]
   · have hil : i = x.kids.length := by omega
     subst hil
     have e : ((x.kids.length : Int) < (x.kids.length : Int)) = False := by simp
     simp +decide only [e, zg, vB, vI, zb, za, hpin, go_sem, reduceAdd, reduceMul]
     refine Tri.step ze ?_
     simp +decide only [hy, hc2, fnC, Int.natCast_nonneg, zb, za, hpin, go_sem, reduceAdd, reduceMul]
     refine Tri.plain 6 1 (cs := fnC true y) rfl rfl (fun z => ?_)
     refine zf ze _ ?_
     simp +decide only [hq, fnC, zb, za, hpin, go_sem, reduceAdd, reduceMul]
     exact ⟨(y.name, z, y.res, y.body, y.ret), fun _ => rfl, rfl⟩
theorem Yr (p : ProgramD) (hD : Deep p.nodes) (l : List VarD) (hl : l.length <= 4194304) (hf : p.fns.length <= 1048576) (hn : p.nodes.length <= 1048576) (hk : ∀ x ∈ p.nodes, x.kids.length <= 300) (n : Nat) : n < p.nodes.length ->
   zB Tryz.prog 58 [.ro (zb p), .ro (.imm 96 (rows (varC true) l)), .ro (.sc (.int .i64 n))] (fun rs st => rs = [(false, [cI (ye p l n)])]) := by
 induction n using Nat.strongRecOn with
 | ind n ih =>
 intro hnl
 have hkid := hD.kid hnl
 have hkx := hk p.nodes[n] (List.getElem_mem hnl)
 have hsh := zu (zZ (hD.deep n hnl) hnl)
 have hrec : ∀ kid ∈ p.nodes[n].kids, zB Tryz.prog 58 [.ro (zb p), .ro (.imm 96 (rows (varC true) l)), .ro (.sc (.int .i64 kid))] (fun rs st => rs = [(false, [cI (ye p l kid)])]) := fun kid hkk => by
   obtain ⟨q0, q1, q2⟩ := hkid kid hkk
   have e : kid = (kid.toNat : Int) := by omega
   have := ih kid.toNat q2 (by omega)
   rw [<- e] at this
   exact this
 have hcr := zoI p l hf hk n hnl hrec
 have htw := fun hpos => zpZ p l n hnl hpos hrec
 have heq := zgd hD l hnl
 have hx : (rows (zg true) p.nodes).getD n [] = zg true p.nodes[n] := zi _ _ hnl
 have hc1 : ((n : Int) < (p.nodes.length : Int)) = True := eq_true (by omega)
 generalize ye p l n = R at heq |-
 generalize p.nodes[n] = x at hkid hkx hsh hrec hcr heq hx htw
 have hvt := zcr l x.name hl
 simp only [zb] at hrec hcr htw
 unfold zeT at heq
 generalize zaB l x.name = tv at heq hvt
 refine zt (fn := Tryz.f58) (c := Tryz.f58.body.getD .skip) (res := [.tm 6]) (n := 83) ze (by kernel_rfl) (by rfl) (by kernel_rfl) (by rfl) (by rfl) (by simp [zq]) (fun uf ub C hpin hpin2 hfull => ?_)
 simp only [Tryz.f58, Option.getD_some]
 refine Tri.step ze ?_
 simp +decide only [zb, za, hpin, go_sem, reduceAdd, reduceMul]
 refine Tri.ent ?_ (Ent.frb hfull 3)
 refine Tri.step ze ?_
 simp +decide only [hc1, hx, zg, Int.natCast_nonneg, zb, za, hpin, go_sem, reduceAdd, reduceMul]
 refine Tri.ent ?_ (Ent.frb hfull 7)
 refine Tri.step ze ?_
 simp +decide only [zb, za, hpin, go_sem, reduceAdd, reduceMul]
 refine zd hvt hpin ?_
 simp +decide only [zb, za, hpin, go_sem, reduceAdd, reduceMul]
 refine Tri.stop ze ⟨83, [(1, .imm 96 (rows (varC true) l)), (2, vI n), (3, .ip (za true p) 0), (7, .ip (zg true x) 0), (8, vI tv), (9, vB (zio tv))], []⟩ ?_ ?_
 · unfold zio
   cases t2 : tv == 2 with
   | true => simp +decide only [t2, Bool.true_or, Bool.false_or, zg, zb, za, hpin, go_sem, reduceAdd, reduceMul]; refine Ent.weak ?_ ?_ ?_ ?_ <;> simp +decide [subT, subB, zl, zk, zo, St.get, look, vI, vB, vS, cI, cS, cB, zg, za, roI, t2]
   | false =>
   cases t3 : tv == 3 with
   | true => simp +decide only [t2, t3, Bool.true_or, Bool.false_or, zg, zb, za, hpin, go_sem, reduceAdd, reduceMul]; refine Ent.weak ?_ ?_ ?_ ?_ <;> simp +decide [subT, subB, zl, zk, zo, St.get, look, vI, vB, vS, cI, cS, cB, zg, za, roI, t2, t3]
   | false =>
   cases t4 : tv == 4 with
   | true => simp +decide only [t2, t3, t4, Bool.true_or, Bool.false_or, zg, zb, za, hpin, go_sem, reduceAdd, reduceMul]; refine Ent.weak ?_ ?_ ?_ ?_ <;> simp +decide [subT, subB, zl, zk, zo, St.get, look, vI, vB, vS, cI, cS, cB, zg, za, roI, t2, t3, t4]
   | false => simp +decide only [t2, t3, t4, Bool.true_or, Bool.false_or, zg, zb, za, hpin, go_sem, reduceAdd, reduceMul]; refine Ent.weak ?_ ?_ ?_ ?_ <;> simp +decide [subT, subB, zl, zk, zo, St.get, look, vI, vB, vS, cI, cS, cB, zg, za, roI, t2, t3, t4]
 refine Tri.step ze ?_
 cases h1 : x.kind == 1 with
 | true =>
   have ek := eq_of_beq h1
   rw [ek] at heq
   simp +decide only [Bool.or_true, Bool.true_or, Bool.or_false, Bool.false_or, if_true, if_false, Int.reduceBEq, Bool.false_eq_true] at heq
   simp +decide only [h1, heq, za, vB, vI, zg, zb, za, hpin, go_sem, reduceAdd, reduceMul]
 | false =>
 cases h7 : x.kind == 7 with
 | true =>
   have ek := eq_of_beq h7
   rw [ek] at heq
   simp +decide only [Bool.or_true, Bool.true_or, Bool.or_false, Bool.false_or, if_true, if_false, Int.reduceBEq, Bool.false_eq_true] at heq
   simp +decide only [h1, h7, heq, za, vB, vI, zg, zb, za, hpin, go_sem, reduceAdd, reduceMul]
 | false =>
 cases h2 : x.kind == 2 with
 | true =>
   have ek := eq_of_beq h2
   rw [ek] at heq
   simp +decide only [Bool.or_true, Bool.true_or, Bool.or_false, Bool.false_or, if_true, if_false, Int.reduceBEq, Bool.false_eq_true] at heq
   simp +decide only [h1, h7, h2, heq, za, vB, vI, zg, zb, za, hpin, go_sem, reduceAdd, reduceMul]
 | false =>
 cases h3 : x.kind == 3 with
 | true =>
   have ek := eq_of_beq h3
   rw [ek] at heq
   simp +decide only [Bool.or_true, Bool.true_or, Bool.or_false, Bool.false_or, if_true, if_false, Int.reduceBEq, Bool.false_eq_true] at heq
   cases hh : zio tv with
   | true =>
     simp +decide only [hh, if_true] at heq
     simp +decide only [h1, h7, h2, h3, hh, heq, za, vB, vI, zg, zb, za, hpin, go_sem, reduceAdd, reduceMul]
   | false =>
   simp +decide only [hh, if_false, Bool.false_eq_true] at heq
   simp +decide only [h1, h7, h2, h3, hh, za, vB, vI, zg, zb, za, hpin, go_sem, reduceAdd, reduceMul]
   refine zf ze _ ?_
   simp +decide only [heq, zb, za, hpin, go_sem, reduceAdd, reduceMul]
 | false =>
 cases h4 : x.kind == 4 with
 | true =>
   have ek := eq_of_beq h4
   rw [ek] at heq
   simp +decide only [Bool.or_true, Bool.true_or, Bool.or_false, Bool.false_or, if_true, if_false, Int.reduceBEq, Bool.false_eq_true] at heq
   cases hh : zio tv with
   | true =>
     simp +decide only [hh, if_true] at heq
     simp +decide only [h1, h7, h2, h3, h4, hh, heq, za, vB, vI, zg, zb, za, hpin, go_sem, reduceAdd, reduceMul]
   | false =>
   simp +decide only [hh, if_false, Bool.false_eq_true] at heq
   simp +decide only [h1, h7, h2, h3, h4, hh, za, vB, vI, zg, zb, za, hpin, go_sem, reduceAdd, reduceMul]
   refine zf ze _ ?_
   simp +decide only [heq, zb, za, hpin, go_sem, reduceAdd, reduceMul]
 | false =>
 cases h5 : x.kind == 5 with
 | true =>
   have ek := eq_of_beq h5
   rw [ek] at heq
   simp +decide only [Bool.or_true, Bool.true_or, Bool.or_false, Bool.false_or, if_true, if_false, Int.reduceBEq, Bool.false_eq_true] at heq
   cases t2 : tv == 2 with
   | true =>
     simp +decide only [t2, if_true] at heq
     simp +decide only [h1, h7, h2, h3, h4, h5, t2, heq, za, vB, vI, zg, zb, za, hpin, go_sem, reduceAdd, reduceMul]
   | false =>
   simp +decide only [t2, if_false, Bool.false_eq_true] at heq
   simp +decide only [h1, h7, h2, h3, h4, h5, t2, za, vB, vI, zg, zb, za, hpin, go_sem, reduceAdd, reduceMul]
   refine zf ze _ ?_
   simp +decide only [heq, zb, za, hpin, go_sem, reduceAdd, reduceMul]
 | false =>
 cases h6 : x.kind == 6 with
 | true =>
   have ek := eq_of_beq h6
   rw [ek] at heq
   simp +decide only [Bool.or_true, Bool.true_or, Bool.or_false, Bool.false_or, if_true, if_false, Int.reduceBEq, Bool.false_eq_true] at heq
   cases t2 : tv == 2 with
   | true =>
     simp +decide only [t2, if_true] at heq
     simp +decide only [h1, h7, h2, h3, h4, h5, h6, t2, heq, za, vB, vI, zg, zb, za, hpin, go_sem, reduceAdd, reduceMul]
   | false =>
   simp +decide only [t2, if_false, Bool.false_eq_true] at heq
   simp +decide only [h1, h7, h2, h3, h4, h5, h6, t2, za, vB, vI, zg, zb, za, hpin, go_sem, reduceAdd, reduceMul]
   refine zf ze _ ?_
   simp +decide only [heq, zb, za, hpin, go_sem, reduceAdd, reduceMul]
 | false =>
 cases h8 : x.kind == 8 with
 | true =>
   have ek := eq_of_beq h8
   rw [ek] at heq
   simp +decide only [Bool.or_true, Bool.true_or, Bool.or_false, Bool.false_or, if_true, if_false, Int.reduceBEq, Bool.false_eq_true] at heq
   have hpos : 0 < x.kids.length := by rw [ek] at hsh; have := hsh.1; simp [zA] at this; omega
   have hg0 : (row1 cI x.kids).getD (Int.toNat 0) [] = [cI x.kids[0]] := zr cI x.kids hpos
   have hc0 : ((0 : Int) < (x.kids.length : Int)) = True := eq_true (by omega)
   have hk0 : x.kids.getD 0 0 = x.kids[0] := by simp [List.getD, hpos]
   have hih := hrec x.kids[0] (List.getElem_mem hpos)
   rw [hk0] at heq
   simp only [cI] at hg0
   simp +decide only [h1, h7, h2, h3, h4, h5, h6, h8, za, vB, vI, zg, zb, za, hpin, go_sem, reduceAdd, reduceMul]
   refine Tri.sched ze [(1, true), (2, true), (0, true), (3, false), (4, false), (5, false), (6, false), (7, false)] zL (by kernel_rfl) (fun C2 hC2 => ?_)
   have hp2 := zN hC2 hpin
   simp +decide only [hg0, hc0, hpos, zb, za, hp2, go_sem, reduceAdd, reduceMul]
   refine zd hih hp2 ?_
   cases hT : ye p l x.kids[0] == 1 with
   | true =>
     simp +decide only [hT, if_true] at heq
     simp +decide only [hT, heq, zb, za, hp2, hpin, go_sem, reduceAdd, reduceMul]
   | false =>
   simp +decide only [hT, if_false, Bool.false_eq_true] at heq
   simp +decide only [hT, zb, za, hp2, hpin, go_sem, reduceAdd, reduceMul]
   refine zf ze _ ?_
   simp +decide only [heq, zb, za, hpin, go_sem, reduceAdd, reduceMul]
 | false =>
 cases h9 : x.kind == 9 with
 | true =>
   have ek := eq_of_beq h9
   rw [ek] at heq
   simp +decide only [Bool.or_true, Bool.true_or, Bool.or_false, Bool.false_or, if_true, if_false, Int.reduceBEq, Bool.false_eq_true] at heq
   have hpos : 1 < x.kids.length := by rw [ek] at hsh; have := hsh.1; simp [zA] at this; omega
   have htw2 := htw hpos
   simp +decide only [h1, h7, h2, h3, h4, h5, h6, h8, h9, za, vB, vI, zg, zb, za, hpin, go_sem, reduceAdd, reduceMul]
   refine zd htw2 hpin ?_
   cases hT : ye p l (x.kids.getD 0 0) == 1 && ye p l (x.kids.getD 1 0) == 1 with
   | true =>
     rw [hT, if_pos rfl] at heq
     simp +decide only [heq, zb, za, hpin, go_sem, reduceAdd, reduceMul]
   | false =>
   rw [hT, if_neg (by decide)] at heq
   simp +decide only [zb, za, hpin, go_sem, reduceAdd, reduceMul]
   refine zf ze _ ?_
   simp +decide only [heq, zb, za, hpin, go_sem, reduceAdd, reduceMul]
 | false =>
 cases h10 : x.kind == 10 with
 | true =>
   have ek := eq_of_beq h10
   rw [ek] at heq
   simp +decide only [Bool.or_true, Bool.true_or, Bool.or_false, Bool.false_or, if_true, if_false, Int.reduceBEq, Bool.false_eq_true] at heq
   have hpos : 1 < x.kids.length := by rw [ek] at hsh; have := hsh.1; simp [zA] at this; omega
   have htw2 := htw hpos
   simp +decide only [h1, h7, h2, h3, h4, h5, h6, h8, h9, h10, za, vB, vI, zg, zb, za, hpin, go_sem, reduceAdd, reduceMul]
   refine zd htw2 hpin ?_
   cases hT : ye p l (x.kids.getD 0 0) == 1 && ye p l (x.kids.getD 1 0) == 1 with
   | true =>
     rw [hT, if_pos rfl] at heq
     simp +decide only [heq, zb, za, hpin, go_sem, reduceAdd, reduceMul]
   | false =>
   rw [hT, if_neg (by decide)] at heq
   simp +decide only [zb, za, hpin, go_sem, reduceAdd, reduceMul]
   refine zf ze _ ?_
   simp +decide only [heq, zb, za, hpin, go_sem, reduceAdd, reduceMul]
 | false =>
 cases h11 : x.kind == 11 with
 | true =>
   have ek := eq_of_beq h11
   rw [ek] at heq
   simp +decide only [Bool.or_true, Bool.true_or, Bool.or_false, Bool.false_or, if_true, if_false, Int.reduceBEq, Bool.false_eq_true] at heq
   have hpos : 1 < x.kids.length := by rw [ek] at hsh; have := hsh.1; simp [zA] at this; omega
   have htw2 := htw hpos
   simp +decide only [h1, h7, h2, h3, h4, h5, h6, h8, h9, h10, h11, za, vB, vI, zg, zb, za, hpin, go_sem, reduceAdd, reduceMul]
   refine zd htw2 hpin ?_
   cases hT : ye p l (x.kids.getD 0 0) == 1 && ye p l (x.kids.getD 1 0) == 1 with
   | true =>
     rw [hT, if_pos rfl] at heq
     simp +decide only [heq, zb, za, hpin, go_sem, reduceAdd, reduceMul]
   | false =>
   rw [hT, if_neg (by decide)] at heq
   simp +decide only [zb, za, hpin, go_sem, reduceAdd, reduceMul]
   refine zf ze _ ?_
   simp +decide only [heq, zb, za, hpin, go_sem, reduceAdd, reduceMul]
 | false =>
 cases h12 : x.kind == 12 with
 | true =>
   have ek := eq_of_beq h12
   rw [ek] at heq
   simp +decide only [Bool.or_true, Bool.true_or, Bool.or_false, Bool.false_or, if_true, if_false, Int.reduceBEq, Bool.false_eq_true] at heq
   simp +decide only [h1, h7, h2, h3, h4, h5, h6, h8, h9, h10, h11, h12, za, vB, vI, zg, zb, za, hpin, go_sem, reduceAdd, reduceMul]
   refine zkJ hcr hpin ?_ ?_
   · simp +decide only [zb, za, hpin, go_sem, reduceAdd, reduceMul]
   rintro ⟨qa, qz, qr, qb, qc⟩ hq
   unfold sigR
   cases hc : ZP (ye p l) p x with
   | false =>
     rw [hc, if_neg (by decide)] at heq
     simp +decide only [zb, za, hpin, go_sem, reduceAdd, reduceMul]
     refine zf ze _ ?_
     simp +decide only [heq, zb, za, hpin, go_sem, reduceAdd, reduceMul]
   | true =>
   have hqr : qr = (fAt p.fns (xJ p.fns x.name)).res := hq hc
   rw [hc, if_pos rfl, <- hqr] at heq
   simp +decide only [heq, zb, za, hpin, go_sem, reduceAdd, reduceMul]
 | false =>
 simp +decide only [h1, h7, h2, h3, h4, h5, h6, h8, h9, h10, h11, h12, Bool.or_false, Bool.false_or, if_false, Bool.false_eq_true] at heq
 simp +decide only [h1, h7, h2, h3, h4, h5, h6, h8, h9, h10, h11, h12, za, vB, vI, zg, zb, za, hpin, go_sem, reduceAdd, reduceMul]
 refine zf ze _ ?_
 simp +decide only [heq, zb, za, hpin, go_sem, reduceAdd, reduceMul]
def tyOf (p : ProgramD) (l : List VarD) (v : VarD) : Int := ye p l ((nAt p.nodes v.node).kids.getD 0 0)
def Yt (p : ProgramD) (l : List VarD) (i : Nat) : List VarD := if 0 <= (l.getD i vr0).node then l.set i ⟨(l.getD i vr0).name, tyOf p l (l.getD i vr0), (l.getD i vr0).node⟩ else l
def zT (p : ProgramD) (l : List VarD) : Nat -> List VarD
 | 0 => l
 | i + 1 => Yt p (zT p l i) i
def zpU (p : ProgramD) (l : List VarD) : Prop := ∀ i (h : i < l.length), l[i].node < 0 \/ (l[i].node.toNat < p.nodes.length /\ 0 < (nAt p.nodes l[i].node).kids.length)
theorem Yb (p : ProgramD) (l : List VarD) (i : Nat) : (Yt p l i).length = l.length := by unfold Yt; split <;> simp
theorem zH (p : ProgramD) (l : List VarD) : ∀ i, (zT p l i).length = l.length
 | 0 => rfl
 | i + 1 => by unfold zT; rw [Yb, zH p l i]
theorem ziN (p : ProgramD) (l : List VarD) (i j : Nat) (hj : j < l.length) : ((Yt p l i)[j]'(by rw [Yb]; exact hj)).node = l[j].node := by
 unfold Yt
 split
 · simp only [List.getElem_set]
   split
   · rename_i h; subst h; simp [List.getD, hj]
   · rfl
 · rfl
theorem zcy (p : ProgramD) (l : List VarD) (i j : Nat) (hj : j < l.length) (hne : i ≠ j) : (Yt p l i)[j]'(by rw [Yb]; exact hj) = l[j] := by
 unfold Yt
 split
 · simp only [List.getElem_set, if_neg hne]
 · rfl
theorem zdk {p : ProgramD} {l : List VarD} (h : zpU p l) : ∀ i, zpU p (zT p l i)
 | 0 => h
 | i + 1 => fun j hj => by
   have h1 := zdk h i
   have hj2 : j < (zT p l i).length := by rw [zH] at hj |-; exact hj
   have h2 := h1 j hj2
   have e : ((zT p l (i + 1))[j]).node = ((zT p l i)[j]).node := ziN p (zT p l i) i j hj2
   rw [e]; exact h2
theorem zaT (p : ProgramD) (l : List VarD) {j : Nat} (hj : j < l.length) : ∀ i, j < i -> (zT p l i)[j]'(by rw [zH]; exact hj) = (zT p l (j + 1))[j]'(by rw [zH]; exact hj)
 | 0, h => by omega
 | i + 1, h => by
   by_cases e : j = i
   · subst e; rfl
   · have h1 := zaT p l hj i (by omega)
     rw [<- h1]
     exact zcy p (zT p l i) i j (by rw [zH]; exact hj) (fun hh => e hh.symm)
def tyB (l : List VarD) (i : Nat) : Bool := !((l.getD i vr0).ty == 0)
noncomputable def zP (p : ProgramD) (fn : Int) : List VarD := zT p (ZR p fn) (ZR p fn).length
noncomputable def zbo (p : ProgramD) (fn : Int) : Bool := zG (tyB (zP p fn)) (zP p fn).length
theorem zlD {p : ProgramD} (hD : Deep p.nodes) (fn : Int) : zpU p (ZR p fn) := by
 have key : ∀ v ∈ ZR p fn, v.node < 0 \/ (v.node.toNat < p.nodes.length /\ 0 < (nAt p.nodes v.node).kids.length) := fun v hv => by
   unfold ZR at hv
   split at hv
   · rcases List.mem_append.1 hv with hv | hv
     · unfold zY at hv
       obtain ⟨x, _, rfl⟩ := List.mem_map.1 hv
       left; simp [XU]
     · unfold xZ at hv
       obtain ⟨k, hk, hv⟩ := List.mem_flatMap.1 hv
       unfold letV at hv
       split at hv
       · rename_i h13
         simp at hv
         subst hv
         have hm := zbW hk
         right
         refine ⟨hm.2.1, ?_⟩
         have hsh := zu (zZ (hD.deep _ hm.2.1) hm.2.1)
         rw [xY hm.2.1] at h13 |-
         have ek := eq_of_beq h13
         rw [ek] at hsh
         have := hsh.1
         simp [zA] at this
         omega
       · simp at hv
   · simp at hv
 exact fun i h => key _ (List.getElem_mem h)
theorem zlF (l : List VarD) (i : Nat) (x : VarD) : (rows (varC false) l).set i [cS x.name, cI x.ty, cI x.node] = rows (varC false) (l.set i x) := zke (varC false) l i x
theorem zgc (p : ProgramD) (hD : Deep p.nodes) (l : List VarD) (hl : l.length <= 4194304) (hf : p.fns.length <= 1048576) (hn : p.nodes.length <= 1048576) (hk : ∀ x ∈ p.nodes, x.kids.length <= 300) (n : Nat) (hnl : n < p.nodes.length) :
   zB Tryz.prog 67 [.ro (zb p), .ro (.imm 96 (rows (varC true) l)), .ro (.sc (.int .i64 n))] (fun rs st => rs = [(false, [cI (ye p l n)])]) := by
 have hty := Ys p hD l hl hf hn hk n hnl
 have hde := zbi p.nodes n hn (fun x hx => by have := hk x hx; omega)
 have hd0 : (yJ p.nodes (n : Int) == 0) = false := by
   have h9 : inI (n : Int) 0 (p.nodes.length - 1) = true := by simp [inI]; omega
   have := hD.deep n hnl
   simp [yJ, h9, this]
 simp only [zb] at hty
 refine zt (fn := Tryz.f67) (c := Tryz.f67.body.getD .skip) (res := [.tm 6]) (n := 16) ze (by kernel_rfl) (by rfl) (by kernel_rfl) (by rfl) (by rfl) (by simp [zq]) (fun uf ub C hpin hpin2 hfull => ?_)
 simp only [Tryz.f67, Option.getD_some]
 refine Tri.step ze ?_
 simp +decide only [zb, za, hpin, go_sem, reduceAdd, reduceMul]
 refine Tri.ent ?_ (Ent.frb hfull 3)
 refine Tri.step ze ?_
 simp +decide only [zb, za, hpin, go_sem, reduceAdd, reduceMul]
 refine zd hde hpin ?_
 simp +decide only [hd0, zb, za, hpin, go_sem, reduceAdd, reduceMul]
 refine zf ze _ ?_
 simp +decide only [zb, za, hpin, go_sem, reduceAdd, reduceMul]
 refine zd hty hpin ?_
 simp +decide only [zb, za, hpin, go_sem, reduceAdd, reduceMul]
theorem zaF (p : ProgramD) (hD : Deep p.nodes) (fn : Int) (hf : p.fns.length <= 1048576) (hn : p.nodes.length <= 1048576) (hk : ∀ x ∈ p.nodes, x.kids.length <= 300) (hpl : ∀ f ∈ p.fns, f.params.length <= 1048576) :
   zB Tryz.prog 63 [.ro (zb p), .ro (.sc (.int .i64 fn))] (fun rs st => rs = [(false, [.row false 96 (rows (varC false) (zP p fn))])]) := by
 have hvs := zdh p fn hf hn (fun x hx => by have := hk x hx; omega) hpl
 have hvl := Zc p fn hpl hn
 have hok := zlD hD fn
 unfold zP
 generalize ZR p fn = l at hvs hvl hok |-
 simp only [zb] at hvs
 refine zt (fn := Tryz.f63) (c := Tryz.f63.body.getD .skip) (res := [.tm 4]) (n := 42) ze (by kernel_rfl) (by rfl) (by kernel_rfl) (by rfl) (by rfl) (by simp [zq]) (fun uf ub C hpin hpin2 hfull => ?_)
 simp only [Tryz.f63, Option.getD_some]
 refine Tri.step ze ?_
 simp +decide only [zb, za, hpin, go_sem, reduceAdd, reduceMul]
 refine Tri.ent ?_ (Ent.frb hfull 2)
 refine Tri.step ze ?_
 simp +decide only [zb, za, hpin, go_sem, reduceAdd, reduceMul]
 refine zd hvs hpin ?_
 simp +decide only [zb, za, hpin, go_sem, reduceAdd, reduceMul]
 refine Tri.step ze ?_
 simp +decide only [zb, za, hpin, go_sem, reduceAdd, reduceMul]
 refine Tri.loop (ι := Nat) (fun i => i <= l.length) (fun i => ⟨42, [(2, .ip (za true p) 0), (5, .ref 5 [] l.length), (11, vI l.length), (12, vI i)], [(5, .row 96 (rows (varC false) (zT p l i)))]⟩) (fun i => l.length - i) 0 (by simp) ?_ ?_
 · refine Ent.weak ?_ ?_ ?_ ?_ <;> simp +decide [subT, subB, zl, zk, zo, St.get, look, vI, vB, vS, cI, cS, cB, zg, za, roI, zT]
 · rintro i hi
   refine zf ze _ ?_
   have hpl2 := zH p l i
   by_cases h' : i < l.length
   · have e : ((i : Int) < (l.length : Int)) = True := by simp [h']
     have hok2 := zdk hok i
     have hnx : zT p l (i + 1) = Yt p (zT p l i) i := rfl
     generalize zT p l i = L at hpl2 hok2 hnx
     have hiL : i < L.length := by omega
     have hge : L.getD i vr0 = L[i] := by simp [List.getD, hiL]
     have htk := yq (varC false) L
     rw [hpl2] at htk
     unfold Yt tyOf at hnx
     rw [hge] at hnx
     have hq := xy (varC false) L hiL
     have hqd := zi (varC false) L hiL
     simp only [varC] at hq hqd
     by_cases hneg : 0 <= L[i].node
     · have c1 : (0 <= L[i].node) = True := eq_true hneg
       obtain ⟨g1, g2⟩ := (hok2 i hiL).resolve_left (by omega)
       rw [if_pos hneg, xY g1] at hnx
       rw [xY g1] at g2
       have c2 : (L[i].node < (p.nodes.length : Int)) = True := eq_true (by omega)
       have hy : (rows (zg true) p.nodes).getD L[i].node.toNat [] = zg true p.nodes[L[i].node.toNat] := zi _ _ g1
       have hkd := hD.kid g1
       generalize p.nodes[L[i].node.toNat] = x at hy g2 hnx hkd
       have hk0 : x.kids.getD 0 0 = x.kids[0] := by simp [List.getD, g2]
       obtain ⟨q0, q1, q2⟩ := hkd x.kids[0] (List.getElem_mem g2)
       obtain ⟨m, hm⟩ : ∃ m : Nat, x.kids[0] = m := ⟨x.kids[0].toNat, by omega⟩
       have hty := zgc p hD L (by omega) hf hn hk m (by omega)
       rw [hk0, hm] at hnx
       have hg0 : (row1 cI x.kids).getD (Int.toNat 0) [] = [cI x.kids[0]] := zr cI x.kids g2
       rw [hm] at hg0
       have hc0 : ((0 : Int) < (x.kids.length : Int)) = True := eq_true (by omega)
       have hvst := zlF L i ⟨L[i].name, ye p L m, L[i].node⟩
       rw [<- hnx] at hvst
       simp only [zb] at hty
       simp only [cI, cS] at hvst hg0 hq hqd
       simp +decide only [e, h', c1, hq, hqd, Int.natCast_nonneg, vB, vI, zb, za, hpin, go_sem, reduceAdd, reduceMul]
       refine Tri.sched ze [(0, true), (1, true), (3, true), (4, true), (6, true), (7, true), (8, true), (9, true), (2, true), (5, true), (10, false), (11, false), (12, false), (13, false), (14, false), (15, false), (16, false), (17, false), (18, false), (19, false)] zL (by kernel_rfl) (fun C2 hC2 => ?_)
       have hp2 := zN hC2 hpin
       simp +decide only [e, h', c1, c2, hq, hqd, hy, zg, hg0, hc0, g2, htk, Int.natCast_nonneg, zb, za, hp2, go_sem, reduceAdd, reduceMul]
       refine zd hty hp2 ?_
       simp +decide only [e, hpl2, htk, h', hq, hqd, hvst, Int.natCast_nonneg, zb, za, hp2, hpin, go_sem, reduceAdd, reduceMul]
       refine ⟨i + 1, h', by omega, Ent.weak ?_ ?_ ?_ ?_⟩
       all_goals simp +decide [subT, subB, zl, zk, zo, St.get, look, vI, vB, vS, cI, cS, cB, zg, za, roI, w64s (n := l.length) h' (by omega)]
     · have c1 : (0 <= L[i].node) = False := eq_false hneg
       rw [if_neg hneg] at hnx
       simp +decide only [e, h', c1, hq, hqd, Int.natCast_nonneg, vB, vI, zb, za, hpin, go_sem, reduceAdd, reduceMul]
       refine ⟨i + 1, h', by omega, Ent.weak ?_ ?_ ?_ ?_⟩
       all_goals simp +decide [subT, subB, zl, zk, zo, St.get, look, vI, vB, vS, cI, cS, cB, zg, za, roI, hnx, w64s (n := l.length) h' (by omega)]
   · have hil : i = l.length := by omega
     subst hil
     have e : ((l.length : Int) < (l.length : Int)) = False := by simp
     simp +decide only [e, vB, vI, zb, za, hpin, go_sem, reduceAdd, reduceMul]
     refine zf ze _ ?_
     simp +decide only [hpl2, zb, za, hpin, go_sem, reduceAdd, reduceMul]
theorem zhg (p : ProgramD) (hR : xe p = true) (fn : Nat) (hfn : fn < p.fns.length) (hf : p.fns.length <= 1048576) (hn : p.nodes.length <= 1048576) (hk : ∀ x ∈ p.nodes, x.kids.length <= 1048576) (hpl : ∀ f ∈ p.fns, f.params.length <= 1048576) :
   zB Tryz.prog 117 [.ro (zb p), .ro (.sc (.int .i64 fn))] (fun rs st => rs = if zbo p fn then [(false, [.row false 96 (rows (varC false) (zP p fn))]), (false, [cB true])] else [(false, [.row false 96 []]), (false, [cB false])]) := by
 have hG := yz (Bool.and_eq_true_iff.1 hR).1
 have hk3 : ∀ x ∈ p.nodes, x.kids.length <= 300 := fun x hx => by have := hG.deep.few x hx; omega
 have hvs := zaF p hG.deep fn hf hn hk3 hpl
 have hnr := Xd p hf hn hk hpl
 have hvl : (zP p fn).length <= 2097152 := by unfold zP; rw [zH]; exact Zc p fn hpl hn
 have hin : inI (fn : Int) 0 (p.fns.length - 1) = true := by simp [inI]; omega
 rw [hR] at hnr
 unfold zbo
 generalize zP p fn = l at hvs hvl |-
 simp only [zb] at hvs hnr
 have w1 : IntKind.i64.wrap ((p.fns.length : Int) - 1) = (p.fns.length : Int) - 1 := w64 (by omega) (by omega)
 refine zt (fn := Tryz.f117) (c := Tryz.f117.body.getD .skip) (res := [.tm 4, .tm 5]) (n := 35) ze (by kernel_rfl) (by rfl) (by kernel_rfl) (by rfl) (by rfl) (by simp [zq]) (fun uf ub C hpin hpin2 hfull => ?_)
 simp only [Tryz.f117, Option.getD_some]
 refine Tri.step ze ?_
 simp +decide only [zb, za, hpin, go_sem, reduceAdd, reduceMul]
 refine Tri.ent ?_ (Ent.frb hfull 2)
 refine Tri.step ze ?_
 simp +decide only [zb, za, hpin, go_sem, reduceAdd, reduceMul]
 refine zd hnr hpin ?_
 simp +decide only [w1, zb, za, hpin, go_sem, reduceAdd, reduceMul]
 refine zd (in' fn 0 (p.fns.length - 1)) hpin ?_
 simp +decide only [hin, zb, za, hpin, go_sem, reduceAdd, reduceMul]
 refine Tri.step ze ?_
 simp +decide only [zb, za, hpin, go_sem, reduceAdd, reduceMul]
 refine zd hvs hpin ?_
 simp +decide only [zb, za, hpin, go_sem, reduceAdd, reduceMul]
 refine Tri.step ze ?_
 simp +decide only [zb, za, hpin, go_sem, reduceAdd, reduceMul]
 have htk := yq (varC false) l
 refine Tri.loop (ι := Nat) (fun i => i <= l.length /\ zG (tyB l) i = true) (fun i => ⟨35, [(6, .ref 6 [] l.length), (24, .ref 6 [] l.length), (25, vI l.length), (26, vI i)], [(6, .row 96 (rows (varC false) l))]⟩) (fun i => l.length - i) 0 ⟨by simp, rfl⟩ ?_ ?_
 · refine Ent.weak ?_ ?_ ?_ ?_ <;> simp +decide [subT, subB, zl, zk, zo, St.get, look, vI, vB, vS, cI, cS, cB, zg, za, roI]
 · rintro i ⟨hi, hq⟩
   refine zf ze _ ?_
   by_cases h' : i < l.length
   · have e : ((i : Int) < (l.length : Int)) = True := by simp [h']
     have hge : tyB l i = !(l[i].ty == 0) := by simp [tyB, List.getD, h']
     simp +decide only [e, h', xy _ _ h', zi _ _ h', varC, Int.natCast_nonneg, vB, vI, zb, za, hpin, go_sem, reduceAdd, reduceMul]
     cases hz : l[i].ty == 0 with
     | true =>
       have hff : zG (tyB l) l.length = false := zy h' (by rw [hge, hz]; rfl)
       rw [hff]
       simp +decide only [hz, zb, za, hpin, go_sem, reduceAdd, reduceMul]
     | false =>
       simp +decide only [hz, zb, za, hpin, go_sem, reduceAdd, reduceMul]
       refine ⟨i + 1, ⟨h', by rw [zM, hq, hge, hz]; rfl⟩, by omega, Ent.weak ?_ ?_ ?_ ?_⟩
       all_goals simp +decide [subT, subB, zl, zk, zo, St.get, look, vI, vB, vS, cI, cS, cB, zg, za, roI, w64s (n := l.length) h' (by omega)]
   · have hil : i = l.length := by omega
     subst hil
     have e : ((l.length : Int) < (l.length : Int)) = False := by simp
     rw [hq]
     simp +decide only [e, vB, vI, zb, za, hpin, go_sem, reduceAdd, reduceMul]
     refine zf ze _ ?_
     simp +decide only [htk, zb, za, hpin, go_sem, reduceAdd, reduceMul]
theorem zcq (p : ProgramD) (hD : Deep p.nodes) (fn : Int) (hf : p.fns.length <= 1048576) (hn : p.nodes.length <= 1048576) (hk : ∀ x ∈ p.nodes, x.kids.length <= 300) (hpl : ∀ f ∈ p.fns, f.params.length <= 1048576) :
   zB Tryz.prog 106 [.ro (zb p), .ro (.sc (.int .i64 fn))] (fun rs st => rs = if zbo p fn then [(false, [.row false 96 (rows (varC false) (zP p fn))]), (false, [cB true])] else [(false, [.row false 96 []]), (false, [cB false])]) := by
 have hvs := zdg p fn hf hn (fun x hx => by have := hk x hx; omega) hpl
 have hvl := Zc p fn hpl hn
 have hok := zlD hD fn
 unfold zbo zP
 generalize ZR p fn = l at hvs hvl hok |-
 simp only [zb] at hvs
 have hll := zH p l l.length
 have hbad : ∀ i (h : i < l.length), (((zT p l (i + 1)).getD i vr0).ty == 0) = true -> zG (tyB (zT p l l.length)) (zT p l l.length).length = false := fun i h hz => by
   refine zy (i := i) (by omega) ?_
   have h1 := zaT p l h l.length h
   have h2 : (zT p l (i + 1)).getD i vr0 = (zT p l (i + 1))[i]'(by rw [zH]; exact h) := by simp [List.getD, zH, h]
   have h3 : (zT p l l.length).getD i vr0 = (zT p l l.length)[i]'(by rw [zH]; exact h) := by simp [List.getD, zH, h]
   unfold tyB
   rw [h3, h1, <- h2, hz]; rfl
 have hgood : (∀ i (h : i < l.length), (((zT p l (i + 1)).getD i vr0).ty == 0) = false) -> zG (tyB (zT p l l.length)) (zT p l l.length).length = true := fun hall => by
   rw [yN]
   intro i hi
   rw [hll] at hi
   have h1 := zaT p l hi l.length hi
   have h2 : (zT p l (i + 1)).getD i vr0 = (zT p l (i + 1))[i]'(by rw [zH]; exact hi) := by simp [List.getD, zH, hi]
   have h3 : (zT p l l.length).getD i vr0 = (zT p l l.length)[i]'(by rw [zH]; exact hi) := by simp [List.getD, zH, hi]
   unfold tyB
   rw [h3, h1, <- h2, hall i hi]; rfl
 refine zt (fn := Tryz.f106) (c := Tryz.f106.body.getD .skip) (res := [.tm 4, .tm 5]) (n := 50) ze (by kernel_rfl) (by rfl) (by kernel_rfl) (by rfl) (by rfl) (by simp [zq]) (fun uf ub C hpin hpin2 hfull => ?_)
 simp only [Tryz.f106, Option.getD_some]
 refine Tri.step ze ?_
 simp +decide only [zb, za, hpin, go_sem, reduceAdd, reduceMul]
 refine Tri.ent ?_ (Ent.frb hfull 2)
 refine Tri.step ze ?_
 simp +decide only [zb, za, hpin, go_sem, reduceAdd, reduceMul]
 refine zd hvs hpin ?_
 simp +decide only [zb, za, hpin, go_sem, reduceAdd, reduceMul]
 refine Tri.step ze ?_
 simp +decide only [zb, za, hpin, go_sem, reduceAdd, reduceMul]
 refine Tri.loop (ι := Nat) (fun i => i <= l.length /\ ∀ j (h : j < l.length), j < i -> (((zT p l (j + 1)).getD j vr0).ty == 0) = false) (fun i => ⟨50, [(2, .ip (za true p) 0), (6, .ref 6 [] l.length), (7, vI i)], [(6, .row 96 (rows (varC false) (zT p l i)))]⟩) (fun i => l.length - i) 0 ⟨by simp, fun j hj h0 => by omega⟩ ?_ ?_
 · refine Ent.weak ?_ ?_ ?_ ?_ <;> simp +decide [subT, subB, zl, zk, zo, St.get, look, vI, vB, vS, cI, cS, cB, zg, za, roI, zT]
 · rintro i ⟨hi, hall⟩
   have hpl2 := zH p l i
   by_cases h' : i < l.length
   · have e : ((i : Int) < (l.length : Int)) = True := by simp [h']
     have hok2 := zdk hok i
     have hnx : zT p l (i + 1) = Yt p (zT p l i) i := rfl
     have hnl2 := zH p l (i + 1)
     have hbad2 := hbad i h'
     have hall2 : (((zT p l (i + 1)).getD i vr0).ty == 0) = false -> ∀ j (h : j < l.length), j < i + 1 -> (((zT p l (j + 1)).getD j vr0).ty == 0) = false := fun hz j hj hj2 => by
       by_cases ej : j = i
       · subst ej; exact hz
       · exact hall j hj (by omega)
     generalize zG (tyB (zT p l l.length)) (zT p l l.length).length = RB at hbad2 |-
     generalize zT p l l.length = FL at hbad2 |-
     have hgoal : ∀ j, j = i + 1 -> rows (varC false) (zT p l j) = rows (varC false) (zT p l (i + 1)) := fun j hj => by rw [hj]
     generalize hL : zT p l i = L at hpl2 hok2 hnx
     generalize hM : zT p l (i + 1) = M at hnx hnl2 hbad2 hall2
     have hiL : i < L.length := by omega
     have hiM : i < M.length := by omega
     have hge : L.getD i vr0 = L[i] := by simp [List.getD, hiL]
     have hgm : M.getD i vr0 = M[i] := by simp [List.getD, hiM]
     have htk := yq (varC false) L
     rw [hpl2] at htk
     rw [hgm] at hbad2 hall2
     have hnx0 := hnx
     unfold Yt tyOf at hnx
     rw [hge] at hnx
     have hq := xy (varC false) L hiL
     have hqd := zi (varC false) L hiL
     have hqm := xy (varC false) M hiM
     have hqdm := zi (varC false) M hiM
     simp only [varC, cI, cS] at hq hqd hqm hqdm
     have fin : ∀ (b : Bool), (M[i].ty == 0) = b -> True := fun _ _ => trivial
     refine zf ze _ ?_
     by_cases hneg : 0 <= L[i].node
     · have c1 : (0 <= L[i].node) = True := eq_true hneg
       obtain ⟨g1, g2⟩ := (hok2 i hiL).resolve_left (by omega)
       rw [if_pos hneg, xY g1] at hnx
       rw [xY g1] at g2
       have c2 : (L[i].node < (p.nodes.length : Int)) = True := eq_true (by omega)
       have hy : (rows (zg true) p.nodes).getD L[i].node.toNat [] = zg true p.nodes[L[i].node.toNat] := zi _ _ g1
       have hkd := hD.kid g1
       generalize p.nodes[L[i].node.toNat] = x at hy g2 hnx hkd
       have hk0 : x.kids.getD 0 0 = x.kids[0] := by simp [List.getD, g2]
       obtain ⟨q0, q1, q2⟩ := hkd x.kids[0] (List.getElem_mem g2)
       obtain ⟨m, hm⟩ : ∃ m : Nat, x.kids[0] = m := ⟨x.kids[0].toNat, by omega⟩
       have hty := Yr p hD L (by omega) hf hn hk m (by omega)
       rw [hk0, hm] at hnx
       have hg0 : (row1 cI x.kids).getD (Int.toNat 0) [] = [cI x.kids[0]] := zr cI x.kids g2
       rw [hm] at hg0
       have hc0 : ((0 : Int) < (x.kids.length : Int)) = True := eq_true (by omega)
       have hvst := zlF L i ⟨L[i].name, ye p L m, L[i].node⟩
       rw [<- hnx] at hvst
       simp only [zb] at hty
       simp only [cI, cS] at hvst hg0
       simp +decide only [e, h', c1, hq, hqd, Int.natCast_nonneg, vB, vI, zb, za, hpin, go_sem, reduceAdd, reduceMul]
       refine Tri.sched ze [(0, true), (1, true), (3, true), (4, true), (6, true), (7, true), (8, true), (9, true), (2, true), (5, true), (10, false), (11, false), (12, false), (13, false), (14, false), (15, false), (16, false), (17, false), (18, false), (19, false)] zL (by kernel_rfl) (fun C2 hC2 => ?_)
       have hp2 := zN hC2 hpin
       simp +decide only [e, h', c1, c2, hq, hqd, hy, zg, hg0, hc0, g2, htk, Int.natCast_nonneg, zb, za, hp2, go_sem, reduceAdd, reduceMul]
       refine zd hty hp2 ?_
       cases hz : M[i].ty == 0 with
       | true =>
         rw [hbad2 hz]
         simp +decide only [e, hpl2, htk, h', hq, hqd, hvst, hqm, hqdm, hz, Int.natCast_nonneg, zb, za, hp2, hpin, go_sem, reduceAdd, reduceMul]
       | false =>
       simp +decide only [e, hpl2, htk, h', hq, hqd, hvst, hqm, hqdm, hz, Int.natCast_nonneg, zb, za, hp2, hpin, go_sem, reduceAdd, reduceMul]
       refine ⟨i + 1, ⟨h', hall2 hz⟩, by omega, Ent.weak ?_ ?_ ?_ ?_⟩
       all_goals simp +decide [subT, subB, zl, zk, zo, St.get, look, vI, vB, vS, cI, cS, cB, zg, za, roI, hM, w64s (n := l.length) h' (by omega)]
     · have c1 : (0 <= L[i].node) = False := eq_false hneg
       rw [if_neg hneg] at hnx
       subst hnx
       cases hz : M[i].ty == 0 with
       | true =>
         rw [hbad2 hz]
         simp +decide only [e, h', c1, hq, hqd, hz, Int.natCast_nonneg, vB, vI, zb, za, hpin, go_sem, reduceAdd, reduceMul]
       | false =>
       simp +decide only [e, h', c1, hq, hqd, hz, Int.natCast_nonneg, vB, vI, zb, za, hpin, go_sem, reduceAdd, reduceMul]
       refine ⟨i + 1, ⟨h', hall2 hz⟩, by omega, Ent.weak ?_ ?_ ?_ ?_⟩
       all_goals simp +decide [subT, subB, zl, zk, zo, St.get, look, vI, vB, vS, cI, cS, cB, zg, za, roI, hM, w64s (n := l.length) h' (by omega)]
   · have hil : i = l.length := by omega
     subst hil
     have e : ((l.length : Int) < (l.length : Int)) = False := by simp
     have hRt := hgood (fun j hj => hall j hj hj)
     have htk := yq (varC false) (zT p l l.length)
     rw [hll] at htk
     refine zf ze _ ?_
     rw [hRt]
     simp +decide only [e, vB, vI, zb, za, hpin, go_sem, reduceAdd, reduceMul]
     refine zf ze _ ?_
     simp +decide only [htk, hll, zb, za, hpin, go_sem, reduceAdd, reduceMul]
def zeo (T : Int -> Int) (x : NodeD) : Int := if 0 < x.kids.length then T (x.kids.getD 0 0) else 0
def zdr (T : Int -> Int) (p : ProgramD) (l : List VarD) (x : NodeD) : Bool :=
 if x.kind == 13 then !(zeo T x == 0)
 else if x.kind == 14 then (zeo T x == zaB l x.name && (zeo T x == 1 || zeo T x == 2))
 else if x.kind == 15 then (zeo T x == 1 && (zaB l x.name == 2 || zaB l x.name == 4))
 else if x.kind == 16 || (x.kind == 17 || x.kind == 18) then zeo T x == 1
 else if x.kind == 19 then ZP T p (nAt p.nodes (x.kids.getD 0 0))
 else true
def stB (p : ProgramD) (l : List VarD) (m : Nat) : Bool := zdr (ye p l) p l (nAt p.nodes m)
open Classical in
noncomputable def YF (p : ProgramD) (l : List VarD) (n : Nat) : Bool := decide (∀ m, Reach p.nodes n m -> stB p l m = true)
theorem zbM {p : ProgramD} (l : List VarD) {n : Nat} (hn : n < p.nodes.length) : YF p l n = (stB p l n && p.nodes[n].kids.all (fun kid => YF p l kid.toNat)) := by
 rw [Bool.eq_iff_iff, Bool.and_eq_true, List.all_eq_true]
 unfold YF
 simp only [decide_eq_true_eq]
 constructor
 · intro h
   exact ⟨h n (.refl n), fun kid hk m hm => h m ((Reach.step (.refl n) hn hk).trans hm)⟩
 · rintro ⟨h1, h2⟩ m hm
   rcases hm.head with rfl | ⟨_, kid, hk, hr⟩
   · exact h1
   · exact h2 kid hk m hr
theorem zoU {p : ProgramD} (l : List VarD) {n : Nat} (hv : yV (nAt p.nodes n).kind = true) : stB p l n = true := by
 obtain ⟨v20, v16, v17, v19, v14, v15, v13⟩ := zhb hv
 have v18 : ((nAt p.nodes n).kind == 18) = false := by
   have := zu (show inI (nAt p.nodes n).kind 1 12 = true from hv)
   apply Bool.eq_false_iff.2; intro hh; have := eq_of_beq hh; omega
 unfold stB zdr
 rw [v13, v14, v15, v16, v17, v18, v19]; rfl
theorem znc {p : ProgramD} (hD : Deep p.nodes) (l : List VarD) (n : Nat) : n < p.nodes.length -> yV (nAt p.nodes n).kind = true -> YF p l n = true := by
 induction n using Nat.strongRecOn with
 | ind n ih =>
 intro hn hv
 rw [zbM l hn, zoU l hv, Bool.true_and, List.all_eq_true]
 intro kid hk
 obtain ⟨i, hi, rfl⟩ := List.getElem_of_mem hk
 have hft := yP (hD.deep n hn) hn hi
 rw [zI hn] at hv
 obtain ⟨v20, v16, v17, v19, _⟩ := zhb hv
 unfold yD at hft
 rw [v20, v16, v17, v19] at hft
 obtain ⟨q0, q1, q2⟩ := hD.kid hn _ hk
 have e : p.nodes[n].kids[i] = (p.nodes[n].kids[i].toNat : Int) := by omega
 refine ih _ q2 (by omega) ?_
 rw [<- e]; exact hft
theorem zhs (p : ProgramD) (hD : Deep p.nodes) (l : List VarD) (hl : l.length <= 4194304) (hf : p.fns.length <= 1048576) (hn : p.nodes.length <= 1048576) (hk : ∀ x ∈ p.nodes, x.kids.length <= 300) (n : Nat) (hnl : n < p.nodes.length) :
   zB Tryz.prog 118 [.ro (zb p), .ro (.imm 96 (rows (varC true) l)), .ro (.sc (.int .i64 n))] (fun rs st => rs = [(false, [cB (stB p l n)])]) := by
 have hkid := hD.kid hnl
 have hsh := zu (zZ (hD.deep n hnl) hnl)
 have hx : (rows (zg true) p.nodes).getD n [] = zg true p.nodes[n] := zi _ _ hnl
 have hc1 : ((n : Int) < (p.nodes.length : Int)) = True := eq_true (by omega)
 unfold stB
 rw [zI hnl]
 generalize p.nodes[n] = x at hkid hsh hx
 have hvt := zcs l x.name hl
 obtain ⟨R, heq⟩ : ∃ R, R = zdr (ye p l) p l x := ⟨_, rfl⟩
 rw [<- heq]
 unfold zdr at heq
 generalize zaB l x.name = tv at hvt heq
 generalize hht : zeo (ye p l) x = t at heq
 refine zt (fn := Tryz.f118) (c := Tryz.f118.body.getD .skip) (res := [.tm 6]) (n := 76) ze (by kernel_rfl) (by rfl) (by kernel_rfl) (by rfl) (by rfl) (by simp [zq]) (fun uf ub C hpin hpin2 hfull => ?_)
 simp only [Tryz.f118, Option.getD_some]
 refine Tri.step ze ?_
 simp +decide only [zb, za, hpin, go_sem, reduceAdd, reduceMul]
 refine Tri.ent ?_ (Ent.frb hfull 3)
 refine Tri.step ze ?_
 simp +decide only [hc1, hx, zg, Int.natCast_nonneg, zb, za, hpin, go_sem, reduceAdd, reduceMul]
 refine Tri.ent ?_ (Ent.frb hfull 7)
 refine Tri.step ze ?_
 simp +decide only [zb, za, hpin, go_sem, reduceAdd, reduceMul]
 refine Tri.stop ze ⟨76, [(1, .imm 96 (rows (varC true) l)), (3, .ip (za true p) 0), (7, .ip (zg true x) 0), (8, vI t)], []⟩ ?_ ?_
 · unfold zeo at hht
   by_cases hpos : 0 < x.kids.length
   · rw [if_pos hpos] at hht
     have hg0 : (row1 cI x.kids).getD (Int.toNat 0) [] = [cI x.kids[0]] := zr cI x.kids hpos
     have hc0 : ((0 : Int) < (x.kids.length : Int)) = True := eq_true (by omega)
     have hk0 : x.kids.getD 0 0 = x.kids[0] := by simp [List.getD, hpos]
     obtain ⟨q0, q1, q2⟩ := hkid x.kids[0] (List.getElem_mem hpos)
     obtain ⟨m, hm⟩ : ∃ m : Nat, x.kids[0] = m := ⟨x.kids[0].toNat, by omega⟩
     have hty := Ys p hD l hl hf hn hk m (by omega)
     rw [hk0, hm] at hht
     rw [hm] at hg0
     simp only [zb] at hty
     simp only [cI] at hg0
     simp +decide only [hc0, gt_iff_lt, zg, zb, za, hpin, go_sem, reduceAdd, reduceMul]
     refine Tri.sched ze [(1, true), (2, true), (0, true), (3, false), (4, false), (5, false), (6, false), (7, false)] zL (by kernel_rfl) (fun C2 hC2 => ?_)
     have hp2 := zN hC2 hpin
     simp +decide only [hg0, hc0, hpos, zb, za, hp2, go_sem, reduceAdd, reduceMul]
     refine zd hty hp2 ?_
     simp +decide only [hht, zb, za, hp2, hpin, go_sem, reduceAdd, reduceMul]
     refine Ent.weak ?_ ?_ ?_ ?_ <;> simp +decide [subT, subB, zl, zk, zo, St.get, look, vI, vB, vS, cI, cS, cB, zg, za, roI]
   · rw [if_neg hpos] at hht
     have hc0 : ((0 : Int) < (x.kids.length : Int)) = False := eq_false (by omega)
     simp +decide only [hc0, gt_iff_lt, zg, zb, za, hpin, go_sem, reduceAdd, reduceMul]
     refine Ent.weak ?_ ?_ ?_ ?_ <;> simp +decide [subT, subB, zl, zk, zo, St.get, look, vI, vB, vS, cI, cS, cB, zg, za, roI, <- hht]
 refine Tri.step ze ?_
 simp +decide only [zg, za, vB, vI, zb, za, hpin, go_sem, reduceAdd, reduceMul]
 refine zd hvt hpin ?_
 simp +decide only [zb, za, hpin, go_sem, reduceAdd, reduceMul]
 refine Tri.step ze ?_
 cases h13 : x.kind == 13 with
 | true =>
   have ek := eq_of_beq h13
   rw [ek] at heq
   simp +decide only [Bool.or_true, Bool.true_or, Bool.or_false, Bool.false_or, if_true, if_false, Int.reduceBEq, Bool.false_eq_true] at heq
   simp +decide only [h13, heq, Bool.or_true, Bool.true_or, Bool.or_false, Bool.false_or, bne, zg, zb, za, hpin, go_sem, reduceAdd, reduceMul]
 | false =>
 cases h14 : x.kind == 14 with
 | true =>
   have ek := eq_of_beq h14
   rw [ek] at heq
   simp +decide only [Bool.or_true, Bool.true_or, Bool.or_false, Bool.false_or, if_true, if_false, Int.reduceBEq, Bool.false_eq_true] at heq
   cases e1 : t == tv with
   | false =>
     simp only [e1, Bool.true_and, Bool.false_and, Bool.true_or, Bool.false_or, Bool.or_false] at heq
     simp +decide only [h13, h14, e1, heq, Bool.or_true, Bool.true_or, Bool.or_false, Bool.false_or, bne, zg, zb, za, hpin, go_sem, reduceAdd, reduceMul]
   | true =>
   cases e2 : t == 1 with
   | true =>
     simp only [e1, e2, Bool.true_and, Bool.false_and, Bool.true_or, Bool.false_or, Bool.or_false] at heq
     simp +decide only [h13, h14, e1, e2, heq, Bool.or_true, Bool.true_or, Bool.or_false, Bool.false_or, bne, zg, zb, za, hpin, go_sem, reduceAdd, reduceMul]
   | false =>
   cases e3 : t == 2 with
   | true =>
     simp only [e1, e2, e3, Bool.true_and, Bool.false_and, Bool.true_or, Bool.false_or, Bool.or_false] at heq
     simp +decide only [h13, h14, e1, e2, e3, heq, Bool.or_true, Bool.true_or, Bool.or_false, Bool.false_or, bne, zg, zb, za, hpin, go_sem, reduceAdd, reduceMul]
   | false =>
     simp only [e1, e2, e3, Bool.true_and, Bool.false_and, Bool.true_or, Bool.false_or, Bool.or_false] at heq
     simp +decide only [h13, h14, e1, e2, e3, heq, Bool.or_true, Bool.true_or, Bool.or_false, Bool.false_or, bne, zg, zb, za, hpin, go_sem, reduceAdd, reduceMul]
 | false =>
 cases h15 : x.kind == 15 with
 | true =>
   have ek := eq_of_beq h15
   rw [ek] at heq
   simp +decide only [Bool.or_true, Bool.true_or, Bool.or_false, Bool.false_or, if_true, if_false, Int.reduceBEq, Bool.false_eq_true] at heq
   cases e1 : t == 1 with
   | false =>
     simp only [e1, Bool.true_and, Bool.false_and, Bool.true_or, Bool.false_or, Bool.or_false] at heq
     simp +decide only [h13, h14, h15, e1, heq, Bool.or_true, Bool.true_or, Bool.or_false, Bool.false_or, bne, zg, zb, za, hpin, go_sem, reduceAdd, reduceMul]
   | true =>
   cases e2 : tv == 2 with
   | true =>
     simp only [e1, e2, Bool.true_and, Bool.false_and, Bool.true_or, Bool.false_or, Bool.or_false] at heq
     simp +decide only [h13, h14, h15, e1, e2, heq, Bool.or_true, Bool.true_or, Bool.or_false, Bool.false_or, bne, zg, zb, za, hpin, go_sem, reduceAdd, reduceMul]
   | false =>
   cases e3 : tv == 4 with
   | true =>
     simp only [e1, e2, e3, Bool.true_and, Bool.false_and, Bool.true_or, Bool.false_or, Bool.or_false] at heq
     simp +decide only [h13, h14, h15, e1, e2, e3, heq, Bool.or_true, Bool.true_or, Bool.or_false, Bool.false_or, bne, zg, zb, za, hpin, go_sem, reduceAdd, reduceMul]
   | false =>
     simp only [e1, e2, e3, Bool.true_and, Bool.false_and, Bool.true_or, Bool.false_or, Bool.or_false] at heq
     simp +decide only [h13, h14, h15, e1, e2, e3, heq, Bool.or_true, Bool.true_or, Bool.or_false, Bool.false_or, bne, zg, zb, za, hpin, go_sem, reduceAdd, reduceMul]
 | false =>
 cases h16 : x.kind == 16 with
 | true =>
   have ek := eq_of_beq h16
   rw [ek] at heq
   simp +decide only [Bool.or_true, Bool.true_or, Bool.or_false, Bool.false_or, if_true, if_false, Int.reduceBEq, Bool.false_eq_true] at heq
   simp +decide only [h13, h14, h15, h16, heq, Bool.or_true, Bool.true_or, Bool.or_false, Bool.false_or, bne, zg, zb, za, hpin, go_sem, reduceAdd, reduceMul]
 | false =>
 cases h17 : x.kind == 17 with
 | true =>
   have ek := eq_of_beq h17
   rw [ek] at heq
   simp +decide only [Bool.or_true, Bool.true_or, Bool.or_false, Bool.false_or, if_true, if_false, Int.reduceBEq, Bool.false_eq_true] at heq
   simp +decide only [h13, h14, h15, h16, h17, heq, Bool.or_true, Bool.true_or, Bool.or_false, Bool.false_or, bne, zg, zb, za, hpin, go_sem, reduceAdd, reduceMul]
 | false =>
 cases h18 : x.kind == 18 with
 | true =>
   have ek := eq_of_beq h18
   rw [ek] at heq
   simp +decide only [Bool.or_true, Bool.true_or, Bool.or_false, Bool.false_or, if_true, if_false, Int.reduceBEq, Bool.false_eq_true] at heq
   simp +decide only [h13, h14, h15, h16, h17, h18, heq, Bool.or_true, Bool.true_or, Bool.or_false, Bool.false_or, bne, zg, zb, za, hpin, go_sem, reduceAdd, reduceMul]
 | false =>
 cases h19 : x.kind == 19 with
 | true =>
   have ek := eq_of_beq h19
   rw [ek] at heq
   simp +decide only [Bool.or_true, Bool.true_or, Bool.or_false, Bool.false_or, if_true, if_false, Int.reduceBEq, Bool.false_eq_true] at heq
   have hpos : 0 < x.kids.length := by rw [ek] at hsh; have := hsh.1; simp [zA] at this; omega
   have hg0 : (row1 cI x.kids).getD (Int.toNat 0) [] = [cI x.kids[0]] := zr cI x.kids hpos
   have hc0 : ((0 : Int) < (x.kids.length : Int)) = True := eq_true (by omega)
   have hk0 : x.kids.getD 0 0 = x.kids[0] := by simp [List.getD, hpos]
   obtain ⟨q0, q1, q2⟩ := hkid x.kids[0] (List.getElem_mem hpos)
   obtain ⟨m, hm⟩ : ∃ m : Nat, x.kids[0] = m := ⟨x.kids[0].toNat, by omega⟩
   have hml : m < p.nodes.length := by omega
   have hcr := zbR p l hl hf hn hk m hml (fun kid hkk => by
     obtain ⟨r0, r1, r2⟩ := hD.kid hml kid hkk
     have e : kid = (kid.toNat : Int) := by omega
     have := Ys p hD l hl hf hn hk kid.toNat (by omega)
     rw [<- e] at this
     exact this)
   rw [hk0, hm, zI hml] at heq
   rw [<- heq] at hcr
   rw [hm] at hg0
   simp only [zb] at hcr
   simp only [cI] at hg0
   simp +decide only [h13, h14, h15, h16, h17, h18, h19, Bool.or_true, Bool.true_or, Bool.or_false, Bool.false_or, bne, zg, zb, za, hpin, go_sem, reduceAdd, reduceMul]
   refine Tri.sched ze [(1, true), (2, true), (0, true), (3, false), (4, false), (5, false), (6, false), (7, false)] zL (by kernel_rfl) (fun C2 hC2 => ?_)
   have hp2 := zN hC2 hpin
   simp +decide only [hg0, hc0, hpos, zb, za, hp2, go_sem, reduceAdd, reduceMul]
   refine zd hcr hp2 ?_
   simp +decide only [zb, za, hp2, hpin, go_sem, reduceAdd, reduceMul]
 | false =>
 simp +decide only [h13, h14, h15, h16, h17, h18, h19, Bool.or_false, if_false, Bool.false_eq_true] at heq
 simp +decide only [h13, h14, h15, h16, h17, h18, h19, Bool.or_true, Bool.true_or, Bool.or_false, Bool.false_or, bne, zg, zb, za, hpin, go_sem, reduceAdd, reduceMul]
 refine zf ze _ ?_
 simp +decide only [heq, zb, za, hpin, go_sem, reduceAdd, reduceMul]
noncomputable def yY (p : ProgramD) (i : Nat) : Bool := zbo p i && (YF p (zP p i) (fAt p.fns i).body.toNat && (decide ((fAt p.fns i).ret < 0) || ye p (zP p i) (fAt p.fns i).ret == (fAt p.fns i).res))
noncomputable def yu (p : ProgramD) : Bool := xe p && zG (yY p) p.fns.length
theorem zkO {p : ProgramD} (l : List VarD) {b : Nat} (hd : dAt p.nodes b ≠ 0) : (xt p.nodes b).all (fun x => stB p l x.toNat) = YF p l b := by
 rw [Bool.eq_iff_iff, List.all_eq_true]
 unfold YF
 simp only [decide_eq_true_eq]
 constructor
 · intro h m hm
   have := h (m : Int) (by unfold xt; exact List.mem_map.2 ⟨m, (Zd hd).2 hm, rfl⟩)
   exact this
 · intro h x hx
   unfold xt at hx
   obtain ⟨m, hm, rfl⟩ := List.mem_map.1 hx
   exact h m ((Zd hd).1 hm)
theorem zbn (p : ProgramD) (fn : Int) (hpl : ∀ f ∈ p.fns, f.params.length <= 1048576) (hn : p.nodes.length <= 1048576) : (zP p fn).length <= 2097152 := by
 unfold zP; rw [zH]; exact Zc p fn hpl hn
theorem YZ (p : ProgramD) (hf : p.fns.length <= 1048576) (hn : p.nodes.length <= 1048576) (hk : ∀ x ∈ p.nodes, x.kids.length <= 1048576) (hpl : ∀ f ∈ p.fns, f.params.length <= 1048576) : zB Tryz.prog 39 [.ro (zb p)] (fun rs st => rs = [(false, [cB (yu p)])]) := by
 have hps := Xd p hf hn hk hpl
 simp only [zb] at hps
 unfold yu
 refine zt (fn := Tryz.f39) (c := Tryz.f39.body.getD .skip) (res := [.tm 2]) (n := 58) ze (by kernel_rfl) (by rfl) (by kernel_rfl) (by rfl) (by rfl) (by simp [zq]) (fun uf ub C hpin hpin2 hfull => ?_)
 simp only [Tryz.f39, Option.getD_some]
 refine Tri.step ze ?_
 simp +decide only [zb, za, hpin, go_sem, reduceAdd, reduceMul]
 refine Tri.ent ?_ (Ent.frb hfull 1)
 refine Tri.step ze ?_
 simp +decide only [zb, za, hpin, go_sem, reduceAdd, reduceMul]
 refine zd hps hpin ?_
 cases h0 : xe p with
 | false => simp +decide only [zb, za, hpin, go_sem, reduceAdd, reduceMul]
 | true =>
 have hG := yz (Bool.and_eq_true_iff.1 h0).1
 have hk3 : ∀ x ∈ p.nodes, x.kids.length <= 300 := fun x hx => by have := hG.deep.few x hx; omega
 simp +decide only [zb, za, hpin, go_sem, reduceAdd, reduceMul]
 refine Tri.step ze ?_
 simp +decide only [zb, za, hpin, go_sem, reduceAdd, reduceMul]
 refine Tri.loop (ι := Nat) (fun i => i <= p.fns.length /\ zG (yY p) i = true) (fun i => ⟨58, [(1, .ip (za true p) 0), (2, vB false), (13, .imm 104 (rows (fnC true) p.fns)), (14, vI p.fns.length), (15, vI i)], []⟩) (fun i => p.fns.length - i) 0 ⟨by simp, rfl⟩ ?_ ?_
 · refine Ent.weak ?_ ?_ ?_ ?_ <;> simp +decide [subT, subB, zl, zk, zo, St.get, look, vI, vB, vS, cI, cS, cB, zg, za, roI]
 · rintro i ⟨hi, hq⟩
   refine zf ze _ ?_
   by_cases h' : i < p.fns.length
   · have e : ((i : Int) < (p.fns.length : Int)) = True := by simp [h']
     have hx : (rows (fnC true) p.fns).getD i [] = fnC true p.fns[i] := zi _ _ h'
     have hok := hG.fn i h'
     have hfe : yY p i = (zbo p i && (YF p (zP p i) p.fns[i].body.toNat && (decide (p.fns[i].ret < 0) || ye p (zP p i) p.fns[i].ret == p.fns[i].res))) := by unfold yY; rw [yE h']
     obtain ⟨⟨b0, b1⟩, hret⟩ := xp hok
     generalize p.fns[i] = g at hx hok hfe b0 b1 hret
     have hts := zhg p h0 i h' hf hn hk hpl
     have hll := zbn p i hpl hn
     simp only [zb] at hts
     simp +decide only [e, h', hx, fnC, Int.natCast_nonneg, za, vB, vI, zb, za, hpin, go_sem, reduceAdd, reduceMul]
     cases hB : zbo p i with
     | false =>
       have hff : zG (yY p) p.fns.length = false := zy h' (by rw [hfe, hB]; rfl)
       rw [hB] at hts
       simp only [if_false, Bool.false_eq_true] at hts
       refine zd hts hpin ?_
       simp +decide only [hff, zb, za, hpin, go_sem, reduceAdd, reduceMul]
     | true =>
     rw [hB] at hts
     rw [hB, Bool.true_and] at hfe
     simp only [if_true] at hts
     refine zd hts hpin ?_
     generalize zP p i = l at hll hfe |-
     obtain ⟨b, hbb⟩ : ∃ b : Nat, g.body = b := ⟨g.body.toNat, by omega⟩
     have hbl : b < p.nodes.length := by omega
     have hun := zdj p.nodes b (hG.deep.deep b hbl) hn hk
     have hud := zkO l (hG.deep.deep b hbl)
     have hum : ∀ j (hj : j < (xt p.nodes b).length), 0 <= (xt p.nodes b)[j] /\ (xt p.nodes b)[j].toNat < p.nodes.length := fun j hj => by
       have hm := List.getElem_mem hj
       unfold xt at hm
       obtain ⟨m, hm, he⟩ := List.mem_map.1 hm
       have hm2 := ((Zd (hG.deep.deep b hbl)).1 hm).le (hG.deep.deep b hbl)
       unfold xt at hj |-
       rw [<- he]
       constructor
       · omega
       · simp; omega
     rw [hbb] at hfe
     rw [show (b : Int).toNat = b by omega] at hfe
     simp +decide only [hbb, zb, za, hpin, go_sem, reduceAdd, reduceMul]
     refine zd hun hpin ?_
     simp +decide only [zb, za, hpin, go_sem, reduceAdd, reduceMul]
     have hul : (xt p.nodes b).length <= b + 1 := by have := zbl p.nodes b; simpa [xt] using this
     generalize xt p.nodes b = U at hud hum hul |-
     refine Tri.ent ?_ (Ent.frz hfull 5)
     refine Tri.ent ?_ (Ent.frb hfull 4)
     simp +decide only [zb, za, hpin, go_sem, reduceAdd, reduceMul]
     refine Tri.loop (ι := Nat) (fun j => j <= U.length /\ (U.take j).all (fun x => stB p l x.toNat) = true) (fun j => ⟨58, [(1, .ip (za true p) 0), (2, vB false), (3, vI i), (4, .ip [cS g.name, .row true 107 (rows (zE true) g.params), cI g.res, cI b, cI g.ret] 0), (5, .imm 96 (rows (varC true) l)), (13, .imm 104 (rows (fnC true) p.fns)), (14, vI p.fns.length), (15, vI i), (32, .ref 3032 [] U.length), (33, vI U.length), (34, vI j)], [(3032, .row 3 (row1 cI U))]⟩) (fun j => U.length - j) 0 ⟨by simp, by simp⟩ ?_ ?_
     · refine Ent.weak ?_ ?_ ?_ ?_ <;> simp +decide [subT, subB, zl, zk, zo, St.get, look, vI, vB, vS, cI, cS, cB, zg, za, roI]
     · rintro j ⟨hj, hq2⟩
       refine zf ze _ ?_
       by_cases hj' : j < U.length
       · have e2 : ((j : Int) < (U.length : Int)) = True := by simp [hj']
         obtain ⟨g0, g1⟩ := hum j hj'
         obtain ⟨m, hm⟩ : ∃ m : Nat, U[j] = m := ⟨U[j].toNat, by omega⟩
         have hml : m < p.nodes.length := by omega
         have hsr := zhs p hG.deep l (by omega) hf hn hk3 m hml
         have hUj : stB p l U[j].toNat = stB p l m := by rw [hm]; rfl
         simp only [zb] at hsr
         simp +decide only [e2, hj', yf _ _ hj', hm, Int.natCast_nonneg, za, vB, vI, zb, za, hpin, go_sem, reduceAdd, reduceMul]
         refine zd hsr hpin ?_
         cases hc : stB p l m with
         | false =>
           have hff2 : U.all (fun x => stB p l x.toNat) = false := by rw [List.all_eq_false]; exact ⟨U[j], List.getElem_mem hj', by rw [hUj, hc]; decide⟩
           rw [hud] at hff2
           rw [hff2, Bool.false_and] at hfe
           have hff : zG (yY p) p.fns.length = false := zy h' hfe
           simp +decide only [hff, zb, za, hpin, go_sem, reduceAdd, reduceMul]
         | true =>
           simp +decide only [zb, za, hpin, go_sem, reduceAdd, reduceMul]
           refine ⟨j + 1, ⟨hj', by rw [zbT hj', hq2, hUj, hc]; rfl⟩, by omega, Ent.weak ?_ ?_ ?_ ?_⟩
           all_goals simp +decide [subT, subB, zl, zk, zo, St.get, look, vI, vB, vS, cI, cS, cB, zg, za, roI, w64s (n := U.length) hj' (by omega)]
       · have hjl : j = U.length := by omega
         subst hjl
         have e2 : ((U.length : Int) < (U.length : Int)) = False := by simp
         rw [List.take_length, hud] at hq2
         rw [hq2, Bool.true_and] at hfe
         simp +decide only [e2, za, vB, vI, zb, za, hpin, go_sem, reduceAdd, reduceMul]
         refine Tri.sched ze [(0, false), (1, false), (2, false), (3, false), (5, true), (6, true), (9, true), (4, true), (7, true), (10, true), (8, false), (11, false), (12, false)] zL (by kernel_rfl) (fun C2 hC2 => ?_)
         have hp2 := zN hC2 hpin
         rcases hret with hneg | ⟨x0, x1⟩
         · have y0 : (0 <= g.ret) = False := eq_false (by omega)
           have y1 : decide (g.ret < 0) = true := decide_eq_true hneg
           rw [y1, Bool.true_or] at hfe
           simp +decide only [y0, ge_iff_le, zb, za, hp2, hpin, go_sem, reduceAdd, reduceMul]
           refine ⟨i + 1, ⟨h', by rw [zM, hq, hfe]; rfl⟩, by omega, Ent.weak ?_ ?_ ?_ ?_⟩
           all_goals simp +decide [subT, subB, zl, zk, zo, St.get, look, vI, vB, vS, cI, cS, cB, zg, za, roI, w64s (n := p.fns.length) h' (by omega)]
         · have y0 : (0 <= g.ret) = True := eq_true x0
           have y1 : decide (g.ret < 0) = false := decide_eq_false (by omega)
           rw [y1, Bool.false_or] at hfe
           obtain ⟨r, hrr⟩ : ∃ r : Nat, g.ret = r := ⟨g.ret.toNat, by omega⟩
           have hrl : r < p.nodes.length := by omega
           have hty := Ys p hG.deep l (by omega) hf hn hk3 r hrl
           rw [hrr] at hfe
           simp only [zb] at hty
           simp +decide only [y0, hrr, ge_iff_le, Int.natCast_nonneg, zb, za, hp2, go_sem, reduceAdd, reduceMul]
           refine zd hty hp2 ?_
           cases g2 : ye p l r == g.res with
           | false =>
             rw [g2] at hfe
             have hff : zG (yY p) p.fns.length = false := zy h' hfe
             simp +decide only [g2, hff, bne, zb, za, hp2, hpin, go_sem, reduceAdd, reduceMul]
           | true =>
             rw [g2] at hfe
             simp +decide only [g2, bne, zb, za, hp2, hpin, go_sem, reduceAdd, reduceMul]
             refine ⟨i + 1, ⟨h', by rw [zM, hq, hfe]; rfl⟩, by omega, Ent.weak ?_ ?_ ?_ ?_⟩
             all_goals simp +decide [subT, subB, zl, zk, zo, St.get, look, vI, vB, vS, cI, cS, cB, zg, za, roI, w64s (n := p.fns.length) h' (by omega)]
   · have hil : i = p.fns.length := by omega
     subst hil
     have e : ((p.fns.length : Int) < (p.fns.length : Int)) = False := by simp
     simp +decide only [e, vB, vI, zb, za, hpin, go_sem, reduceAdd, reduceMul]
     refine zf ze _ ?_
     simp +decide only [hq, zb, za, hpin, go_sem, reduceAdd, reduceMul]
theorem zpQ {f : Int -> Bool} : ∀ l : List Int, l.length = 1 -> l.all f = f (l.getD 0 0)
 | [a], _ => by simp
theorem zpP {f : Int -> Bool} : ∀ l : List Int, l.length = 2 -> l.all f = (f (l.getD 0 0) && f (l.getD 1 0))
 | [a, b], _ => by simp
theorem zno {f : Int -> Bool} : ∀ l : List Int, l.length = 3 -> l.all f = (f (l.getD 0 0) && (f (l.getD 1 0) && f (l.getD 2 0)))
 | [a, b, c], _ => by simp
def zjU (p : ProgramD) (l : List VarD) (n : Nat) : Prop := ZT (nAt p.nodes n).kind = true ->
   zB Tryz.prog 168 [.ro (zb p), .ro (.imm 96 (rows (varC true) l)), .ro (.sc (.int .i64 n))] (fun rs st => rs = [(false, [cB (YF p l n)])])
def zgV (p : ProgramD) (l : List VarD) (n : Nat) : Prop := (nAt p.nodes n).kind == 20 ->
   zB Tryz.prog 107 [.ro (zb p), .ro (.imm 96 (rows (varC true) l)), .ro (.sc (.int .i64 n))] (fun rs st => rs = [(false, [cB (YF p l n)])])
theorem zlM (p : ProgramD) (hD : Deep p.nodes) (l : List VarD) (hk : ∀ x ∈ p.nodes, x.kids.length <= 300) (n : Nat) (hnl : n < p.nodes.length) (ih : ∀ m, m < n -> zjU p l m) : zgV p l n := by
 intro h20
 have heq := zbM l hnl
 have hst : stB p l n = true := by
   unfold stB zdr
   have ek := eq_of_beq h20
   rw [ek]; rfl
 rw [hst, Bool.true_and] at heq
 rw [zI hnl] at h20
 have hkid := hD.kid hnl
 have hkx := hk p.nodes[n] (List.getElem_mem hnl)
 have hx : (rows (zg true) p.nodes).getD n [] = zg true p.nodes[n] := zi _ _ hnl
 have hrec : ∀ i (hi : i < p.nodes[n].kids.length), zB Tryz.prog 168 [.ro (zb p), .ro (.imm 96 (rows (varC true) l)), .ro (.sc (.int .i64 p.nodes[n].kids[i]))] (fun rs st => rs = [(false, [cB (YF p l p.nodes[n].kids[i].toNat)])]) := fun i hi => by
   have hft := yP (hD.deep n hnl) hnl hi
   unfold yD at hft
   rw [h20, if_pos rfl] at hft
   obtain ⟨q0, q1, q2⟩ := hkid p.nodes[n].kids[i] (List.getElem_mem hi)
   have e : p.nodes[n].kids[i] = (p.nodes[n].kids[i].toNat : Int) := by omega
   have := ih p.nodes[n].kids[i].toNat q2 (by rw [<- e]; exact hft)
   rw [<- e] at this
   exact this
 generalize YF p l n = R at heq |-
 have hc1 : ((n : Int) < (p.nodes.length : Int)) = True := eq_true (by omega)
 generalize p.nodes[n] = x at hkid hkx heq hx hrec
 simp only [zb] at hrec
 refine zt (fn := Tryz.f107) (c := Tryz.f107.body.getD .skip) (res := [.tm 6]) (n := 32) ze (by kernel_rfl) (by rfl) (by kernel_rfl) (by rfl) (by rfl) (by simp [zq]) (fun uf ub C hpin hpin2 hfull => ?_)
 simp only [Tryz.f107, Option.getD_some]
 refine Tri.step ze ?_
 simp +decide only [zb, za, hpin, go_sem, reduceAdd, reduceMul]
 refine Tri.ent ?_ (Ent.frb hfull 3)
 refine Tri.step ze ?_
 simp +decide only [zb, za, hpin, go_sem, reduceAdd, reduceMul]
 refine Tri.loop (ι := Nat) (fun i => i <= x.kids.length /\ (x.kids.take i).all (fun kid => YF p l kid.toNat) = true) (fun i => ⟨32, [(1, .imm 96 (rows (varC true) l)), (2, vI n), (3, .ip (za true p) 0), (6, vB false), (7, vI i)], []⟩) (fun i => x.kids.length - i) 0 ⟨by simp, by simp⟩ ?_ ?_
 · refine Ent.weak ?_ ?_ ?_ ?_ <;> simp +decide [subT, subB, zl, zk, zo, St.get, look, vI, vB, vS, cI, cS, cB, zg, za, roI]
 · rintro i ⟨hi, hq⟩
   refine zf ze _ ?_
   by_cases h' : i < x.kids.length
   · have e : ((i : Int) < (x.kids.length : Int)) = True := by simp [h']
     have hs := hrec i h'
     simp +decide only [e, hc1, hx, zg, Int.natCast_nonneg, vB, vI, zb, za, hpin, go_sem, reduceAdd, reduceMul]
     refine Tri.sched ze [(1, true), (2, true), (4, true), (8, true), (0, true), (3, false), (5, false), (6, false), (7, false), (9, false), (10, false), (11, false), (12, false)] zL (by kernel_rfl) (fun C2 hC2 => ?_)
     have hp2 := zN hC2 hpin
     simp +decide only [e, hc1, hx, h', zr _ _ h', zg, Int.natCast_nonneg, zb, za, hp2, go_sem, reduceAdd, reduceMul]
     refine zd hs hp2 ?_
     cases hc : YF p l x.kids[i].toNat with
     | false =>
       have hff : x.kids.all (fun kid => YF p l kid.toNat) = false := by rw [List.all_eq_false]; exact ⟨x.kids[i], List.getElem_mem h', by simp [hc]⟩
       rw [hff] at heq
       simp +decide only [heq, zb, za, hp2, hpin, go_sem, reduceAdd, reduceMul]
     | true =>
       simp +decide only [zb, za, hp2, hpin, go_sem, reduceAdd, reduceMul]
       refine ⟨i + 1, ⟨h', by rw [zbT h', hq, hc]; rfl⟩, by omega, Ent.weak ?_ ?_ ?_ ?_⟩
       all_goals simp +decide [subT, subB, zl, zk, zo, St.get, look, vI, vB, vS, cI, cS, cB, zg, za, roI, w64s (n := x.kids.length) h' (by omega)]
   · have hil : i = x.kids.length := by omega
     subst hil
     have e : ((x.kids.length : Int) < (x.kids.length : Int)) = False := by simp
     rw [List.take_length] at hq
     rw [hq] at heq
     simp +decide only [e, hc1, hx, zg, Int.natCast_nonneg, vB, vI, zb, za, hpin, go_sem, reduceAdd, reduceMul]
     refine zf ze _ ?_
     simp +decide only [heq, zb, za, hpin, go_sem, reduceAdd, reduceMul]
theorem znE (p : ProgramD) (hD : Deep p.nodes) (l : List VarD) (hl : l.length <= 4194304) (hf : p.fns.length <= 1048576) (hn : p.nodes.length <= 1048576) (hk : ∀ x ∈ p.nodes, x.kids.length <= 300) (n : Nat) (hnl : n < p.nodes.length) (ih : ∀ m, m < n -> zgV p l m) : zjU p l n := by
 intro hst
 have heq := zbM l hnl
 unfold stB at heq
 rw [zI hnl] at hst heq
 have hkid := hD.kid hnl
 have hx : (rows (zg true) p.nodes).getD n [] = zg true p.nodes[n] := zi _ _ hnl
 have hsr := zu (show inI p.nodes[n].kind 13 19 = true from hst)
 have v20 : (p.nodes[n].kind == 20) = false := by apply Bool.eq_false_iff.2; intro hh; have := eq_of_beq hh; omega
 have hsh := zu (zZ (hD.deep n hnl) hnl)
 have hpos : 0 < p.nodes[n].kids.length := by
   have h1 : 1 <= (zA p.nodes[n].kind).1 := by
     rcases (show p.nodes[n].kind = 13 \/ p.nodes[n].kind = 14 \/ p.nodes[n].kind = 15 \/ p.nodes[n].kind = 16 \/ p.nodes[n].kind = 17 \/ p.nodes[n].kind = 18 \/ p.nodes[n].kind = 19 by omega) with h | h | h | h | h | h | h <;> rw [h] <;> decide
   omega
 have hv0 : YF p l p.nodes[n].kids[0].toNat = true := by
   have hft := yP (hD.deep n hnl) hnl hpos
   obtain ⟨q0, q1, q2⟩ := hkid p.nodes[n].kids[0] (List.getElem_mem hpos)
   have e : p.nodes[n].kids[0] = (p.nodes[n].kids[0].toNat : Int) := by omega
   refine znc hD l _ (by omega) ?_
   rw [<- e]
   unfold yD at hft
   have h00 : decide ((0 : Int) < ((0 : Nat) : Int)) = false := by decide
   rw [v20, if_neg (by decide), h00, Bool.and_false, if_neg (by decide)] at hft
   split at hft
   · have := eq_of_beq hft; rw [this]; decide
   · exact hft
 have hblk : ∀ i (hi : i < p.nodes[n].kids.length), 0 < i -> ((p.nodes[n].kind == 16) = true \/ (p.nodes[n].kind == 17) = true) -> zB Tryz.prog 107 [.ro (zb p), .ro (.imm 96 (rows (varC true) l)), .ro (.sc (.int .i64 p.nodes[n].kids[i]))] (fun rs st => rs = [(false, [cB (YF p l p.nodes[n].kids[i].toNat)])]) := fun i hi hi0 h67 => by
   have hft := yP (hD.deep n hnl) hnl hi
   unfold yD at hft
   have h68 : (p.nodes[n].kind == 16 || p.nodes[n].kind == 17) = true := by rw [Bool.or_eq_true]; exact h67
   have hi1 : decide ((0 : Int) < (i : Int)) = true := decide_eq_true (by omega)
   rw [v20, if_neg (by decide), h68, hi1, Bool.true_and, if_pos rfl] at hft
   obtain ⟨q0, q1, q2⟩ := hkid p.nodes[n].kids[i] (List.getElem_mem hi)
   have e : p.nodes[n].kids[i] = (p.nodes[n].kids[i].toNat : Int) := by omega
   have := ih p.nodes[n].kids[i].toNat q2 (by rw [<- e]; exact hft)
   rw [<- e] at this
   exact this
 generalize YF p l n = R at heq |-
 have hc1 : ((n : Int) < (p.nodes.length : Int)) = True := eq_true (by omega)
 generalize p.nodes[n] = x at hkid hsh heq hx hsr hpos hv0 hblk
 have hvt := zcr l x.name hl
 have hg0 : (row1 cI x.kids).getD (Int.toNat 0) [] = [cI x.kids[0]] := zr cI x.kids hpos
 have hc0 : ((0 : Int) < (x.kids.length : Int)) = True := eq_true (by omega)
 have hk0 : x.kids.getD 0 0 = x.kids[0] := by simp [List.getD, hpos]
 obtain ⟨q0, q1, q2⟩ := hkid x.kids[0] (List.getElem_mem hpos)
 obtain ⟨m, hm⟩ : ∃ m : Nat, x.kids[0] = m := ⟨x.kids[0].toNat, by omega⟩
 have hml : m < p.nodes.length := by omega
 have hty := Yr p hD l hl hf hn hk m hml
 have hsg := zoI p l hf hk m hml (fun kid hkk => by
   obtain ⟨r0, r1, r2⟩ := hD.kid hml kid hkk
   have e : kid = (kid.toNat : Int) := by omega
   have := Yr p hD l hl hf hn hk kid.toNat (by omega)
   rw [<- e] at this
   exact this)
 have hone : x.kids.length = 1 -> x.kids.all (fun kid => YF p l kid.toNat) = true := fun h1 => by rw [zpQ _ h1, hk0]; exact hv0
 have hhead : zeo (ye p l) x = ye p l m := by unfold zeo; rw [if_pos hpos, hk0, hm]
 unfold zdr at heq
 rw [hhead, hk0, hm, zI hml] at heq
 rw [hm] at hg0
 generalize zaB l x.name = tv at hvt heq
 generalize ye p l m = t at hty heq
 simp only [zb] at hty hsg hblk
 simp only [cI] at hg0
 refine zt (fn := Tryz.f168) (c := Tryz.f168.body.getD .skip) (res := [.tm 6]) (n := 110) ze (by kernel_rfl) (by rfl) (by kernel_rfl) (by rfl) (by rfl) (by simp [zq]) (fun uf ub C hpin hpin2 hfull => ?_)
 simp only [Tryz.f168, Option.getD_some]
 refine Tri.step ze ?_
 simp +decide only [zb, za, hpin, go_sem, reduceAdd, reduceMul]
 refine Tri.ent ?_ (Ent.frb hfull 3)
 refine Tri.step ze ?_
 simp +decide only [hc1, hx, zg, Int.natCast_nonneg, zb, za, hpin, go_sem, reduceAdd, reduceMul]
 refine Tri.ent ?_ (Ent.frb hfull 7)
 refine Tri.step ze ?_
 simp +decide only [zb, za, hpin, go_sem, reduceAdd, reduceMul]
 refine Tri.step ze ?_
 cases h19 : x.kind == 19 with
 | true =>
   have ek := eq_of_beq h19
   rw [ek] at heq hsh
   have h1 : x.kids.length = 1 := by have h1 := hsh.1; have h2 := hsh.2; simp [zA] at h1 h2; omega
   rw [hone h1, Bool.and_true] at heq
   simp +decide only [Bool.or_true, Bool.true_or, Bool.or_false, Bool.false_or, if_true, if_false, Int.reduceBEq, Bool.false_eq_true] at heq
   rw [<- heq] at hsg
   simp +decide only [h19, zg, zb, za, hpin, go_sem, reduceAdd, reduceMul]
   refine Tri.fork ze (.one 1 true (.one 2 true (.one 0 true (.one 3 true (.one 4 true (.one 5 true (.two 6 (.one 7 true (.one 8 true (.one 9 true (.one 10 false (.one 11 false (.one 12 false .done)))))) 10 (.one 6 false (.one 7 false (.one 8 true (.one 9 true (.one 11 false (.one 12 false .done))))))))))))) zL (by kernel_rfl) (fun C2 hC2 => ?_)
   have hp2 := zN hC2 hpin
   simp +decide only [hg0, hc0, hpos, zb, za, hp2, go_sem, reduceAdd, reduceMul]
   refine ⟨?_, ?_⟩
   all_goals refine zkJ hsg hp2 ?_ ?_
   all_goals first | (simp +decide only [zb, za, hp2, go_sem, reduceAdd, reduceMul]; done) | skip
   all_goals rintro ⟨qa, qz, qr, qb, qc⟩ hq
   all_goals unfold sigR
   all_goals simp +decide only [zb, za, hp2, hpin, go_sem, reduceAdd, reduceMul]
 | false =>
 simp +decide only [h19, zg, zb, za, hpin, go_sem, reduceAdd, reduceMul]
 refine Tri.step ze ?_
 refine Tri.sched ze [(1, true), (2, true), (0, true), (3, false), (4, false), (5, false), (6, false), (7, false)] zL (by kernel_rfl) (fun C2 hC2 => ?_)
 have hp2 := zN hC2 hpin
 simp +decide only [hg0, hc0, hpos, zg, zb, za, hp2, go_sem, reduceAdd, reduceMul]
 refine zd hty hp2 ?_
 simp +decide only [zb, za, hp2, hpin, go_sem, reduceAdd, reduceMul]
 refine Tri.step ze ?_
 simp +decide only [zb, za, hpin, go_sem, reduceAdd, reduceMul]
 refine zd hvt hpin ?_
 simp +decide only [zb, za, hpin, go_sem, reduceAdd, reduceMul]
 refine Tri.step ze ?_
 cases h13 : x.kind == 13 with
 | true =>
   have ek := eq_of_beq h13
   rw [ek] at heq hsh
   have hln : x.kids.length = 1 := by have h1 := hsh.1; have h2 := hsh.2; simp [zA] at h1 h2; omega
   rw [hone hln, Bool.and_true] at heq
   simp +decide only [Bool.or_true, Bool.true_or, Bool.or_false, Bool.false_or, if_true, if_false, Int.reduceBEq, Bool.false_eq_true] at heq
   simp +decide only [h19, h13, heq, Bool.or_true, Bool.true_or, Bool.or_false, Bool.false_or, bne, zg, zb, za, hp2, hpin, go_sem, reduceAdd, reduceMul]
 | false =>
 cases h14 : x.kind == 14 with
 | true =>
   have ek := eq_of_beq h14
   rw [ek] at heq hsh
   have hln : x.kids.length = 1 := by have h1 := hsh.1; have h2 := hsh.2; simp [zA] at h1 h2; omega
   rw [hone hln, Bool.and_true] at heq
   simp +decide only [Bool.or_true, Bool.true_or, Bool.or_false, Bool.false_or, if_true, if_false, Int.reduceBEq, Bool.false_eq_true] at heq
   cases e1 : t == tv with
   | false =>
     simp only [e1, Bool.true_and, Bool.false_and, Bool.true_or, Bool.false_or, Bool.or_false] at heq
     simp +decide only [h19, h13, h14, e1, heq, Bool.or_true, Bool.true_or, Bool.or_false, Bool.false_or, bne, zg, zb, za, hp2, hpin, go_sem, reduceAdd, reduceMul]
   | true =>
   cases e2 : t == 1 with
   | true =>
     simp only [e1, e2, Bool.true_and, Bool.false_and, Bool.true_or, Bool.false_or, Bool.or_false] at heq
     simp +decide only [h19, h13, h14, e1, e2, heq, Bool.or_true, Bool.true_or, Bool.or_false, Bool.false_or, bne, zg, zb, za, hp2, hpin, go_sem, reduceAdd, reduceMul]
   | false =>
   cases e3 : t == 2 with
   | true =>
     simp only [e1, e2, e3, Bool.true_and, Bool.false_and, Bool.true_or, Bool.false_or, Bool.or_false] at heq
     simp +decide only [h19, h13, h14, e1, e2, e3, heq, Bool.or_true, Bool.true_or, Bool.or_false, Bool.false_or, bne, zg, zb, za, hp2, hpin, go_sem, reduceAdd, reduceMul]
   | false =>
     simp only [e1, e2, e3, Bool.true_and, Bool.false_and, Bool.true_or, Bool.false_or, Bool.or_false] at heq
     simp +decide only [h19, h13, h14, e1, e2, e3, heq, Bool.or_true, Bool.true_or, Bool.or_false, Bool.false_or, bne, zg, zb, za, hp2, hpin, go_sem, reduceAdd, reduceMul]
 | false =>
 cases h15 : x.kind == 15 with
 | true =>
   have ek := eq_of_beq h15
   rw [ek] at heq hsh
   have hln : x.kids.length = 1 := by have h1 := hsh.1; have h2 := hsh.2; simp [zA] at h1 h2; omega
   rw [hone hln, Bool.and_true] at heq
   simp +decide only [Bool.or_true, Bool.true_or, Bool.or_false, Bool.false_or, if_true, if_false, Int.reduceBEq, Bool.false_eq_true] at heq
   cases e1 : t == 1 with
   | false =>
     simp only [e1, Bool.true_and, Bool.false_and, Bool.true_or, Bool.false_or, Bool.or_false] at heq
     simp +decide only [h19, h13, h14, h15, e1, heq, Bool.or_true, Bool.true_or, Bool.or_false, Bool.false_or, bne, zg, zb, za, hp2, hpin, go_sem, reduceAdd, reduceMul]
   | true =>
   cases e2 : tv == 2 with
   | true =>
     simp only [e1, e2, Bool.true_and, Bool.false_and, Bool.true_or, Bool.false_or, Bool.or_false] at heq
     simp +decide only [h19, h13, h14, h15, e1, e2, heq, Bool.or_true, Bool.true_or, Bool.or_false, Bool.false_or, bne, zg, zb, za, hp2, hpin, go_sem, reduceAdd, reduceMul]
   | false =>
   cases e3 : tv == 4 with
   | true =>
     simp only [e1, e2, e3, Bool.true_and, Bool.false_and, Bool.true_or, Bool.false_or, Bool.or_false] at heq
     simp +decide only [h19, h13, h14, h15, e1, e2, e3, heq, Bool.or_true, Bool.true_or, Bool.or_false, Bool.false_or, bne, zg, zb, za, hp2, hpin, go_sem, reduceAdd, reduceMul]
   | false =>
     simp only [e1, e2, e3, Bool.true_and, Bool.false_and, Bool.true_or, Bool.false_or, Bool.or_false] at heq
     simp +decide only [h19, h13, h14, h15, e1, e2, e3, heq, Bool.or_true, Bool.true_or, Bool.or_false, Bool.false_or, bne, zg, zb, za, hp2, hpin, go_sem, reduceAdd, reduceMul]
 | false =>
 cases h16 : x.kind == 16 with
 | true =>
   have hb67 : (x.kind == 16) = true \/ (x.kind == 17) = true := Or.inl h16
   have ek := eq_of_beq h16
   rw [ek] at heq hsh
   have hln : x.kids.length = 3 := by have h1 := hsh.1; have h2 := hsh.2; simp [zA] at h1 h2; omega
   simp +decide only [Bool.or_true, Bool.true_or, Bool.or_false, Bool.false_or, if_true, if_false, Int.reduceBEq, Bool.false_eq_true] at heq
   have hg1 : (row1 cI x.kids).getD (Int.toNat 1) [] = [cI (x.kids[1]'(by omega))] := zr cI x.kids (by omega)
   have hc01 : ((1 : Int) < (x.kids.length : Int)) = True := eq_true (by omega)
   have hk1 : x.kids.getD 1 0 = x.kids[1]'(by omega) := by simp [List.getD, show 1 < x.kids.length by omega]
   have hb1 := hblk 1 (by omega) (by omega) hb67
   have hg2 : (row1 cI x.kids).getD (Int.toNat 2) [] = [cI (x.kids[2]'(by omega))] := zr cI x.kids (by omega)
   have hc02 : ((2 : Int) < (x.kids.length : Int)) = True := eq_true (by omega)
   have hk2 : x.kids.getD 2 0 = x.kids[2]'(by omega) := by simp [List.getD, show 2 < x.kids.length by omega]
   have hb2 := hblk 2 (by omega) (by omega) hb67
   rw [zno _ hln, hk0, hk1, hk2, hv0, Bool.true_and] at heq
   simp only [cI] at hg1 hg2
   simp +decide only [h19, h13, h14, h15, h16, Bool.or_true, Bool.true_or, Bool.or_false, Bool.false_or, bne, zg, zb, za, hp2, hpin, go_sem, reduceAdd, reduceMul]
   refine Tri.sched ze [(0, false), (1, false), (2, false), (4, true), (5, true), (3, true), (6, false), (7, false), (8, false), (9, false), (10, false), (11, false), (13, true), (14, true), (12, true), (15, false), (16, false), (17, false), (18, false), (19, false), (20, false)] zL (by kernel_rfl) (fun C3 hC3 => ?_)
   have hp3 := zN hC3 hpin
   cases e1 : t == 1 with
   | false =>
     rw [e1, Bool.false_and] at heq
     simp +decide only [e1, heq, hg1, hg2, hc01, hc02, zb, za, hp3, hpin, go_sem, reduceAdd, reduceMul]
     try (refine zf ze _ ?_; simp +decide only [heq, zb, za, hpin, go_sem, reduceAdd, reduceMul])
   | true =>
   rw [e1, Bool.true_and] at heq
   simp +decide only [e1, hg1, hg2, hc01, hc02, show 1 < x.kids.length by omega, show 2 < x.kids.length by omega, zb, za, hp3, go_sem, reduceAdd, reduceMul]
   refine zd hb1 hp3 ?_
   cases e2 : YF p l (x.kids[1]'(by omega)).toNat with
   | false =>
     rw [e2, Bool.false_and] at heq
     simp +decide only [e2, heq, hg1, hg2, hc01, hc02, zb, za, hp3, hpin, go_sem, reduceAdd, reduceMul]
     try (refine zf ze _ ?_; simp +decide only [heq, zb, za, hpin, go_sem, reduceAdd, reduceMul])
   | true =>
   rw [e2, Bool.true_and] at heq
   simp +decide only [e2, hg1, hg2, hc01, hc02, show 1 < x.kids.length by omega, show 2 < x.kids.length by omega, zb, za, hp3, go_sem, reduceAdd, reduceMul]
   refine zd hb2 hp3 ?_
   rw [<- heq]
   simp +decide only [zb, za, hp3, hpin, go_sem, reduceAdd, reduceMul]
   try (refine zf ze _ ?_; simp +decide only [zb, za, hpin, go_sem, reduceAdd, reduceMul])
 | false =>
 cases h17 : x.kind == 17 with
 | true =>
   have hb67 : (x.kind == 16) = true \/ (x.kind == 17) = true := Or.inr h17
   have ek := eq_of_beq h17
   rw [ek] at heq hsh
   have hln : x.kids.length = 2 := by have h1 := hsh.1; have h2 := hsh.2; simp [zA] at h1 h2; omega
   simp +decide only [Bool.or_true, Bool.true_or, Bool.or_false, Bool.false_or, if_true, if_false, Int.reduceBEq, Bool.false_eq_true] at heq
   have hg1 : (row1 cI x.kids).getD (Int.toNat 1) [] = [cI (x.kids[1]'(by omega))] := zr cI x.kids (by omega)
   have hc01 : ((1 : Int) < (x.kids.length : Int)) = True := eq_true (by omega)
   have hk1 : x.kids.getD 1 0 = x.kids[1]'(by omega) := by simp [List.getD, show 1 < x.kids.length by omega]
   have hb1 := hblk 1 (by omega) (by omega) hb67
   rw [zpP _ hln, hk0, hk1, hv0, Bool.true_and] at heq
   simp only [cI] at hg1
   simp +decide only [h19, h13, h14, h15, h16, h17, Bool.or_true, Bool.true_or, Bool.or_false, Bool.false_or, bne, zg, zb, za, hp2, hpin, go_sem, reduceAdd, reduceMul]
   refine Tri.sched ze [(0, false), (1, false), (2, false), (4, true), (5, true), (3, true), (6, false), (7, false), (8, false), (9, false), (10, false), (11, false)] zL (by kernel_rfl) (fun C3 hC3 => ?_)
   have hp3 := zN hC3 hpin
   cases e1 : t == 1 with
   | false =>
     rw [e1, Bool.false_and] at heq
     simp +decide only [e1, heq, hg1, hc01, zb, za, hp3, hpin, go_sem, reduceAdd, reduceMul]
     try (refine zf ze _ ?_; simp +decide only [heq, zb, za, hpin, go_sem, reduceAdd, reduceMul])
   | true =>
   rw [e1, Bool.true_and] at heq
   simp +decide only [e1, hg1, hc01, show 1 < x.kids.length by omega, zb, za, hp3, go_sem, reduceAdd, reduceMul]
   refine zd hb1 hp3 ?_
   rw [<- heq]
   simp +decide only [zb, za, hp3, hpin, go_sem, reduceAdd, reduceMul]
   try (refine zf ze _ ?_; simp +decide only [zb, za, hpin, go_sem, reduceAdd, reduceMul])
 | false =>
 have h18 : (x.kind == 18) = true := by
   have g13 : x.kind ≠ 13 := by simpa using h13
   have g14 : x.kind ≠ 14 := by simpa using h14
   have g15 : x.kind ≠ 15 := by simpa using h15
   have g16 : x.kind ≠ 16 := by simpa using h16
   have g17 : x.kind ≠ 17 := by simpa using h17
   have g19 : x.kind ≠ 19 := by simpa using h19
   have : x.kind = 18 := by omega
   rw [this]; rfl
 have ek := eq_of_beq h18
 rw [ek] at heq hsh
 have hln : x.kids.length = 1 := by have h1 := hsh.1; have h2 := hsh.2; simp [zA] at h1 h2; omega
 rw [hone hln, Bool.and_true] at heq
 simp +decide only [Bool.or_true, Bool.true_or, Bool.or_false, Bool.false_or, if_true, if_false, Int.reduceBEq, Bool.false_eq_true] at heq
 simp +decide only [h19, h13, h14, h15, h16, h17, Bool.or_true, Bool.true_or, Bool.or_false, Bool.false_or, bne, zg, zb, za, hp2, hpin, go_sem, reduceAdd, reduceMul]
 refine zf ze _ ?_
 simp +decide only [heq, zb, za, hp2, hpin, go_sem, reduceAdd, reduceMul]
theorem zlL (p : ProgramD) (hD : Deep p.nodes) (l : List VarD) (hl : l.length <= 4194304) (hf : p.fns.length <= 1048576) (hn : p.nodes.length <= 1048576) (hk : ∀ x ∈ p.nodes, x.kids.length <= 300) (n : Nat) : n < p.nodes.length -> zjU p l n /\ zgV p l n := by
 induction n using Nat.strongRecOn with
 | ind n ih =>
 intro hnl
 exact ⟨znE p hD l hl hf hn hk n hnl (fun m hm => (ih m hm (by omega)).2), zlM p hD l hk n hnl (fun m hm => (ih m hm (by omega)).1)⟩
theorem YY (p : ProgramD) (hf : p.fns.length <= 1048576) (hn : p.nodes.length <= 1048576) (hk : ∀ x ∈ p.nodes, x.kids.length <= 1048576) (hpl : ∀ f ∈ p.fns, f.params.length <= 1048576) : zB Tryz.prog 34 [.ro (zb p)] (fun rs st => rs = [(false, [cB (yu p)])]) := by
 have hps := zce p hf hn hk hpl
 simp only [zb] at hps
 unfold yu
 refine zt (fn := Tryz.f34) (c := Tryz.f34.body.getD .skip) (res := [.tm 2]) (n := 53) ze (by kernel_rfl) (by rfl) (by kernel_rfl) (by rfl) (by rfl) (by simp [zq]) (fun uf ub C hpin hpin2 hfull => ?_)
 simp only [Tryz.f34, Option.getD_some]
 refine Tri.step ze ?_
 simp +decide only [zb, za, hpin, go_sem, reduceAdd, reduceMul]
 refine Tri.ent ?_ (Ent.frb hfull 1)
 refine Tri.step ze ?_
 simp +decide only [zb, za, hpin, go_sem, reduceAdd, reduceMul]
 refine zd hps hpin ?_
 cases h0 : xe p with
 | false => simp +decide only [zb, za, hpin, go_sem, reduceAdd, reduceMul]
 | true =>
 have hG := yz (Bool.and_eq_true_iff.1 h0).1
 have hk3 : ∀ x ∈ p.nodes, x.kids.length <= 300 := fun x hx => by have := hG.deep.few x hx; omega
 simp +decide only [zb, za, hpin, go_sem, reduceAdd, reduceMul]
 refine Tri.step ze ?_
 simp +decide only [zb, za, hpin, go_sem, reduceAdd, reduceMul]
 refine Tri.loop (ι := Nat) (fun i => i <= p.fns.length /\ zG (yY p) i = true) (fun i => ⟨53, [(1, .ip (za true p) 0), (2, vB false), (3, vI i)], []⟩) (fun i => p.fns.length - i) 0 ⟨by simp, rfl⟩ ?_ ?_
 · refine Ent.weak ?_ ?_ ?_ ?_ <;> simp +decide [subT, subB, zl, zk, zo, St.get, look, vI, vB, vS, cI, cS, cB, zg, za, roI]
 · rintro i ⟨hi, hq⟩
   refine zf ze _ ?_
   by_cases h' : i < p.fns.length
   · have e : ((i : Int) < (p.fns.length : Int)) = True := by simp [h']
     have hx : (rows (fnC true) p.fns).getD i [] = fnC true p.fns[i] := zi _ _ h'
     have hok := hG.fn i h'
     have hfe : yY p i = (zbo p i && (YF p (zP p i) p.fns[i].body.toNat && (decide (p.fns[i].ret < 0) || ye p (zP p i) p.fns[i].ret == p.fns[i].res))) := by unfold yY; rw [yE h']
     obtain ⟨⟨b0, b1⟩, hret⟩ := xp hok
     have hbk : (nAt p.nodes p.fns[i].body).kind == 20 := by
       simp only [ZW, Bool.and_eq_true, Xz] at hok
       exact hok.2.2.2.2.1.2
     generalize p.fns[i] = g at hx hok hfe b0 b1 hret hbk
     have hts := zcq p hG.deep i hf hn hk3 hpl
     have hll := zbn p i hpl hn
     obtain ⟨b, hbb⟩ : ∃ b : Nat, g.body = b := ⟨g.body.toNat, by omega⟩
     have hbl : b < p.nodes.length := by omega
     rw [hbb] at hfe hbk
     rw [show (b : Int).toNat = b by omega] at hfe
     simp only [zb] at hts
     simp +decide only [e, h', Int.natCast_nonneg, za, vB, vI, zb, za, hpin, go_sem, reduceAdd, reduceMul]
     cases hB : zbo p i with
     | false =>
       have hff : zG (yY p) p.fns.length = false := zy h' (by rw [hfe, hB]; rfl)
       rw [hB] at hts
       simp only [if_false, Bool.false_eq_true] at hts
       refine zd hts hpin ?_
       simp +decide only [e, hx, fnC, hbb, Int.natCast_nonneg, zb, za, hpin, go_sem, reduceAdd, reduceMul]
       refine Tri.ent ?_ (Ent.frb hfull 6)
       simp +decide only [zb, za, hpin, go_sem, reduceAdd, reduceMul]
       refine Tri.sched ze [(0, false), (1, false), (2, false), (4, true), (5, true), (3, true), (6, false), (7, false), (8, false), (9, false), (10, false), (11, false), (12, false), (13, false), (14, false), (16, true), (17, true), (20, true), (15, true), (18, true), (21, true), (19, false), (22, false), (23, false), (24, false)] zL (by kernel_rfl) (fun C2 hC2 => ?_)
       have hp2 := zN hC2 hpin
       simp +decide only [hff, zb, za, hp2, hpin, go_sem, reduceAdd, reduceMul]
     | true =>
     rw [hB] at hts
     rw [hB, Bool.true_and] at hfe
     simp only [if_true] at hts
     refine zd hts hpin ?_
     generalize zP p i = l at hll hfe |-
     have hbs := (zlL p hG.deep l (by omega) hf hn hk3 b hbl).2 hbk
     have htk := yq (varC false) l
     have htk2 := yq (varC true) l
     simp only [zb] at hbs
     simp +decide only [e, hx, fnC, hbb, Int.natCast_nonneg, zb, za, hpin, go_sem, reduceAdd, reduceMul]
     refine Tri.ent ?_ (Ent.frb hfull 6)
     refine Tri.ent ?_ (Ent.frz hfull 4)
     simp +decide only [zb, za, hpin, go_sem, reduceAdd, reduceMul]
     refine Tri.sched ze [(0, false), (1, false), (2, false), (4, true), (5, true), (3, true), (6, false), (7, false), (8, false), (9, false), (10, false), (11, false), (12, false), (13, false), (14, false), (16, true), (17, true), (20, true), (15, true), (18, true), (21, true), (19, false), (22, false), (23, false), (24, false)] zL (by kernel_rfl) (fun C2 hC2 => ?_)
     have hp2 := zN hC2 hpin
     simp +decide only [hbb, zb, za, hp2, go_sem, reduceAdd, reduceMul]
     refine zd hbs hp2 ?_
     cases hc : YF p l b with
     | false =>
       rw [hc, Bool.false_and] at hfe
       have hff : zG (yY p) p.fns.length = false := zy h' hfe
       simp +decide only [hff, zb, za, hp2, hpin, go_sem, reduceAdd, reduceMul]
     | true =>
     rw [hc, Bool.true_and] at hfe
     rcases hret with hneg | ⟨x0, x1⟩
     · have y0 : (0 <= g.ret) = False := eq_false (by omega)
       have y1 : decide (g.ret < 0) = true := decide_eq_true hneg
       rw [y1, Bool.true_or] at hfe
       simp +decide only [y0, ge_iff_le, zb, za, hp2, hpin, go_sem, reduceAdd, reduceMul]
       refine ⟨i + 1, ⟨h', by rw [zM, hq, hfe]; rfl⟩, by omega, Ent.weak ?_ ?_ ?_ ?_⟩
       all_goals simp +decide [subT, subB, zl, zk, zo, St.get, look, vI, vB, vS, cI, cS, cB, zg, za, roI, w64s (n := p.fns.length) h' (by omega)]
     · have y0 : (0 <= g.ret) = True := eq_true x0
       have y1 : decide (g.ret < 0) = false := decide_eq_false (by omega)
       rw [y1, Bool.false_or] at hfe
       obtain ⟨r, hrr⟩ : ∃ r : Nat, g.ret = r := ⟨g.ret.toNat, by omega⟩
       have hrl : r < p.nodes.length := by omega
       have hty := Yr p hG.deep l (by omega) hf hn hk3 r hrl
       rw [hrr] at hfe
       simp only [zb] at hty
       simp +decide only [y0, hrr, ge_iff_le, Int.natCast_nonneg, zb, za, hp2, go_sem, reduceAdd, reduceMul]
       refine zd hty hp2 ?_
       cases g2 : ye p l r == g.res with
       | false =>
         rw [g2] at hfe
         have hff : zG (yY p) p.fns.length = false := zy h' hfe
         simp +decide only [g2, hff, bne, zb, za, hp2, hpin, go_sem, reduceAdd, reduceMul]
       | true =>
         rw [g2] at hfe
         simp +decide only [g2, bne, zb, za, hp2, hpin, go_sem, reduceAdd, reduceMul]
         refine ⟨i + 1, ⟨h', by rw [zM, hq, hfe]; rfl⟩, by omega, Ent.weak ?_ ?_ ?_ ?_⟩
         all_goals simp +decide [subT, subB, zl, zk, zo, St.get, look, vI, vB, vS, cI, cS, cB, zg, za, roI, w64s (n := p.fns.length) h' (by omega)]
   · have hil : i = p.fns.length := by omega
     subst hil
     have e : ((p.fns.length : Int) < (p.fns.length : Int)) = False := by simp
     simp +decide only [e, vB, vI, zb, za, hpin, go_sem, reduceAdd, reduceMul]
     refine zf ze _ ?_
     simp +decide only [hq, zb, za, hpin, go_sem, reduceAdd, reduceMul]
theorem YI {α : Type} (f : α -> Nat) (l m : List α) : sumN f (l ++ m) = sumN f l + sumN f m := by simp [sumN]
theorem zam {α : Type} (f : α -> Nat) (x : α) (l : List α) : sumN f (x :: l) = f x + sumN f l := by simp [sumN]
def zfj (t : Int) : Bool := t == 1 || t == 3
theorem zjK (t : Int) : zB Tryz.prog 181 [.ro (.sc (.int .i64 t))] (fun rs st => rs = [(false, [cB (zfj t)])]) := by
 refine zn (fn := Tryz.f181) (c := Tryz.f181.body.getD .skip) (res := [.tm 2]) (n := 9) ze (by kernel_rfl) (by rfl) (by kernel_rfl) (by rfl) (by rfl) (by simp [zq]) (fun C hpin hfull => ?_)
 simp +decide only [Tryz.f181, zb, za, hpin, go_sem, reduceAdd, reduceMul]
 unfold zfj
 cases h1 : t == 1 with
 | true => simp +decide only [h1, Bool.true_or, Bool.false_or, zb, za, hpin, go_sem, reduceAdd, reduceMul]
 | false => simp +decide only [h1, Bool.false_or, zb, za, hpin, go_sem, reduceAdd, reduceMul]
theorem zjJ (t : Int) : zB Tryz.prog 170 [.ro (.sc (.int .i64 t))] (fun rs st => rs = [(false, [cB (zfj t)])]) := by
 refine zn (fn := Tryz.f170) (c := Tryz.f170.body.getD .skip) (res := [.tm 2]) (n := 9) ze (by kernel_rfl) (by rfl) (by kernel_rfl) (by rfl) (by rfl) (by simp [zq]) (fun C hpin hfull => ?_)
 simp +decide only [Tryz.f170, zb, za, hpin, go_sem, reduceAdd, reduceMul]
 unfold zfj
 cases h1 : t == 1 with
 | true => simp +decide only [h1, Bool.true_or, Bool.false_or, zb, za, hpin, go_sem, reduceAdd, reduceMul]
 | false => simp +decide only [h1, Bool.false_or, zb, za, hpin, go_sem, reduceAdd, reduceMul]
set_option maxHeartbeats 4000000
section
variable {P : Program} {w w1 : World} {C : Cx} {X : Nat -> Prop} {gh gh' : Gh} {st st' : St} {a : Act} {v : V} {u : Value} {K : St -> Prop}
theorem zoF {f : FuncId} {km om : Nat} {em : TypeId} {esm : List (List D)} {ts : (Nat -> Value) -> List V} {iob : List (Nat × Ob)} {post : List RV -> St -> Prop} (hs : SoundAt P f ts iob post) (hpin : ∀ n, 3000 <= n -> C.pin n = none) (hfull : C.full) (M Mk Mr Mb : List (Nat × Nat)) (hMM : M = Mr ++ Mb) (hMv : M = (km, om) :: Mk) (hom : look st.ob om = some (.row em esm)) {vs : List V} {d : Option Nat}
   (hM : ioIs st iob M) (hMr : Xp st Mr) (hMk : (M.map (·.1)).Nodup) (hMo : (M.map (·.2)).Nodup) (hiob : iob.map (·.1) = M.map (·.1)) (hl : ∀ uf, Yd ⟨Mr, uf, pvOf C, [], iob⟩ Mb vs (ts uf))
   (hns : ∀ rs st', post rs st' -> XZ iob st'.ob Mk) (hK : ∀ rs st', post rs st' -> ev (b := ⟨K⟩) (Xk ((st.kill om).wrote Mk st'.ob) d rs)) : zlB P C st f vs d K := by
 refine Or.inl ⟨hs.1, fun a w gh us h hus hv hd => ?_⟩
 classical
 let os := M.map (·.2)
 let gh0 : Gh := { S := gh.S, hv := fun k => match look M k with | some o => gh.hv o | none => undef, bb := fun k => match look M k with | some o => gh.bb o | none => 0, bo := fun k => match look M k with | some o => gh.bo o | none => 0, F := fun k b => ∃ o, look M k = some o /\ gh.F o b }
 let may : Nat -> Nat -> Prop := fun b f => ∃ k o x, look M k = some o /\ look st.ob o = some x /\ gh.F o b /\ (∀ cs, x = .box cs -> b = gh.bb o -> gh.bo o <= f /\ f < gh.bo o + cs.length)
 let C0 : Cx := { w0 := w, s0 := gh0.S, may := may, pin := fun k => if xj k = true then some (gh0.hv k, gh0.bb k, gh0.bo k) else none, z := fun k => gh.S k \/ w.heap.size <= k \/ ∃ f, may k f }
 obtain ⟨hlen, hl⟩ := YM (hl gh0.hv)
 have hosm : ∀ k o, look M k = some o -> o ∈ os /\ xj k = true /\ ∃ x, look st.ob o = some x /\ look iob k = some x := fun k o hk => by
   have hm := yr hk
   obtain ⟨g1, x, g2, g3, _⟩ := ZD hM k o hm
   exact ⟨List.mem_map.2 ⟨(k, o), hm, rfl⟩, g1, x, g2, g3⟩
 have hiobM : ∀ k x, look iob k = some x -> ∃ o, look M k = some o /\ look st.ob o = some x := fun k x hx => by
   have h1 : k ∈ iob.map (·.1) := List.mem_map.2 ⟨(k, x), yr hx, rfl⟩
   rw [hiob] at h1
   obtain ⟨⟨k', o⟩, hm, rfl⟩ := List.mem_map.1 h1
   have hk := yb hMk hm
   obtain ⟨_, _, x', g1, g2⟩ := hosm _ _ hk
   rw [hx] at g2; cases g2
   exact ⟨o, hk, g1⟩
 have hF0 : ∀ k o, look M k = some o -> gh0.F k = gh.F o := fun k o hk => by
   funext b; exact propext ⟨fun ⟨o', ho', hb⟩ => by rw [hk] at ho'; cases ho'; exact hb, fun hb => ⟨o, hk, hb⟩⟩
 have hv0 : ∀ k o, look M k = some o -> gh0.hv k = gh.hv o /\ gh0.bb k = gh.bb o /\ gh0.bo k = gh.bo o := fun k o hk => by simp only [gh0, hk, and_self]
 have hrep : Rep P C0 No ⟨us.size, zipT 0 (ts gh0.hv), iob⟩ ⟨us, []⟩ w gh0 := {
   obs := fun k b hb => by
     obtain ⟨o, hk, ho⟩ := hiobM k b hb
     obtain ⟨g1, g2, g3⟩ := hv0 k o hk
     exact (h.obs o b ho).at (gh' := gh0) rfl g1 g2 g3 (hF0 k o hk)
   dis := fun k k' b b' q hb hb' ⟨o, ho, hq⟩ ⟨o', ho', hq'⟩ => by
     obtain ⟨_, _, x, g1, _⟩ := hosm k o ho
     obtain ⟨_, _, x', g1', _⟩ := hosm k' o' ho'
     have := h.dis o o' _ _ q g1 g1' hq hq'
     subst this
     exact ZK hMo (yr ho) (yr ho')
   sS := h.sS
   nS := fun k b q hb ⟨o, ho, hq⟩ hS => by
     obtain ⟨g0, _, x, g1, _⟩ := hosm k o ho
     exact h.nS o _ q g1 hq hS
   wrR := fun k e es q hb ⟨o, ho, hq⟩ => Or.inr (fun f => by
     obtain ⟨_, _, x, g1, g2⟩ := hosm k o ho
     have hb : look iob k = some (.row e es) := hb
     rw [g2] at hb; cases hb
     exact ⟨k, o, _, ho, g1, hq, fun cs hc => by cases hc⟩)
   wrB := fun k cs q hb ⟨o, ho, hq⟩ hne => Or.inr (fun f => by
     obtain ⟨_, _, x, g1, g2⟩ := hosm k o ho
     exact ⟨k, o, _, ho, g1, hq, fun cs' _ he => (hne (by rw [(hv0 k o ho).2.1]; exact he)).elim⟩)
   wrC := fun k cs j hb hj => Or.inr (by
     obtain ⟨o, hk, ho⟩ := hiobM k _ hb
     obtain ⟨g1, g2, g3⟩ := hv0 k o hk
     rw [g2, g3]
     refine ⟨k, o, _, hk, ho, ?_, fun cs' hc _ => by cases hc; exact ⟨by omega, by omega⟩⟩
     have := h.obs o _ ho
     cases this with
     | box xs G hb hl h1 hc hxx dis nb hF => exact (hF _).2 (Or.inl rfl))
   kept := World.keptBut_refl w _
   pins := fun k x hp hn => by
     simp only [C0] at hp
     split at hp
     · cases hp; rfl
     · cases hp
   tms := fun t => by
     have e1 : St.get ⟨us.size, zipT 0 (ts gh0.hv), iob⟩ t = ((ts gh0.hv)[t]?).getD .dead := by
       unfold St.get; simp only [xR, Nat.zero_le, if_true, Nat.sub_zero]
     rw [e1]
     cases hi : (ts gh0.hv)[t]? with
     | none => exact .dead
     | some x =>
       have hlt := (List.getElem?_eq_some_iff.1 hi).1
       have hvt : vs[t]? = some vs[t] := List.getElem?_eq_getElem (by omega)
       have hle := hl t _ x hvt hi
       have hvr := hv t _ hvt
       simp only [Option.getD_some]
       have low : xD ⟨Mr, gh0.hv, pvOf C, [], iob⟩ vs[t] x -> VR P w gh0 iob x (us.getD t undef) := fun hle => by
         refine Xf (gh0 := gh0) (L := ⟨Mr, gh0.hv, pvOf C, [], iob⟩) (fun k o hk => ?_) (fun o v hv hso => ?_) h.obs (fun k hk => hk) (fun o x k hx hk => by simp [look] at hx) (fun o x hx => by simp [look] at hx) hvr hle
         · have hmm : (k, o) ∈ M := by rw [hMM]; exact List.mem_append_left _ hk
           have hk' := yb hMk hmm
           obtain ⟨_, _, x', g1, g2⟩ := hosm k o hk'
           obtain ⟨e, es, g3⟩ := Xo hMr k o hk
           rw [g3] at g1; cases g1
           exact ⟨e, es, g3, g2, (hv0 k o hk').1, rfl⟩
         · obtain ⟨x, hx, rfl⟩ := Option.map_eq_some_iff.1 hv
           have := h.pins o x hx (fun e => by rw [e] at hso; cases hso)
           rw [<- this]
       unfold zfC at hle
       split at hle
       · rename_i o j heq
         rw [heq] at hvr
         split at hle
         · rename_i k j'
           obtain ⟨hk0, rfl⟩ := hle
           have hmm : (k, o) ∈ M := by rw [hMM]; exact List.mem_append_right _ (yr hk0)
           have hk' := yb hMk hmm
           obtain ⟨g1, g2, g3⟩ := hv0 k o hk'
           obtain ⟨_, _, x', g4, g5⟩ := hosm k o hk'
           generalize us.getD t undef = u0 at hvr
           cases hvr with
           | bp hx =>
             rw [hx] at g4; cases g4
             have := VR.bp (P := P) (w := w) (gh := gh0) (j := j) g5
             rw [g2, g3] at this; exact this
         · exact hle.elim
       · rename_i ch j heq
         rw [heq] at hvr
         split at hle
         · obtain ⟨rfl, rfl⟩ := hle
           generalize us.getD t undef = u0 at hvr
           cases hvr with
           | ip U hs' h' => exact .ip U hs' h'
         · exact hle.elim
       · exact low hle
   nt := Nat.le_refl _
   dfs := rfl
   xl := fun k hk => hk.elim
   xS := fun k hk => hk.elim
   xF := fun o b k hb hk => hk.elim
   xW := fun k hk => hk.elim
   s0S := fun k hk => hk
   sZ := fun k hk => Or.inl hk }
 refine (hs.2 gh0.hv (fun o => (gh0.bb o, gh0.bo o)) C0 w gh0 us rfl (fun o ho => by simp only [C0, ho]; rfl) (fun o ho => by simp only [C0, ho]; rfl) (fun k hk => Or.inr hk) (by omega) hrep).mono (fun e w' he => ?_)
 obtain ⟨vs', rs, st', a', gc, G, rfl, hpost, hres, hR⟩ := he
 refine ⟨tupV vs', rfl, ?_⟩
 have hlike := hns rs st' hpost
 have hk := hR.kept
 have mayos : ∀ b f, may b f -> ∃ o x, o ∈ os /\ look st.ob o = some x /\ gh.F o b := fun b f ⟨k, o, x, hk, hx, hb, _⟩ => ⟨o, x, (hosm k o hk).1, hx, hb⟩
 have allmay : ∀ b, (∀ f, may b f) -> ∃ o x, o ∈ os /\ look st.ob o = some x /\ gh.F o b /\ ∀ cs, x = .box cs -> b ≠ gh.bb o := fun b hb => by
   obtain ⟨k, o, x, hk, hx, hF, _⟩ := hb 0
   refine ⟨o, x, (hosm k o hk).1, hx, hF, fun cs hc he => ?_⟩
   obtain ⟨k2, o2, x2, hk2, hx2, hF2, h2⟩ := hb (gh.bo o + cs.length)
   have := h.dis o o2 _ _ b hx hx2 hF hF2
   subst this
   rw [hx] at hx2; cases hx2
   have := h2 cs hc he
   omega
 have wr0 : ∀ o x b, look st.ob o = some x -> gh.F o b -> (∀ cs, x = .box cs -> b ≠ gh.bb o) -> C.w0.heap.size <= b \/ ∀ f, C.may b f := fun o x b hx hb hc => by
   cases x with
   | row e es => exact h.wrR o e es b hx hb
   | box cs => exact h.wrB o cs b hx hb (hc cs rfl)
 have wrA : ∀ b, (∀ f, may b f) -> C.w0.heap.size <= b \/ ∀ f, C.may b f := fun b hb => by
   obtain ⟨o, x, _, hx, hF, hc⟩ := allmay b hb
   exact wr0 o x b hx hF hc
 have wr1 : ∀ b f, may b f -> C.w0.heap.size <= b \/ C.may b f := fun b f ⟨k, o, x, hk, hx, hF, hc⟩ => by
   by_cases hbx : ∀ cs, x = .box cs -> b ≠ gh.bb o
   · exact (wr0 o x b hx hF hbx).imp id (fun hh => hh f)
   · simp only [Classical.not_forall] at hbx
     obtain ⟨cs, hcs, hne⟩ := hbx
     have he : b = gh.bb o := Classical.not_not.1 hne
     subst hcs
     obtain ⟨g1, g2⟩ := hc cs rfl he
     have := h.wrC o cs (f - gh.bo o) hx (by omega)
     rw [show gh.bo o + (f - gh.bo o) = f by omega] at this
     rw [he]; exact this
 have heap : ∀ k, k < w.heap.size -> ¬ (∃ f, may k f) -> w'.heap[k]? = w.heap[k]? := by
   intro k hk' hn
   refine xb hk hk' (fun f hm => ?_) (fun hm => ?_)
   · obtain ⟨b, f', e, hm⟩ := hm
     injection e with e1 e2
     rw [<- e1, <- e2] at hm
     exact hn ⟨f, hm⟩
   · obtain ⟨b, f', e, _⟩ := hm
     cases e
 have hsub : ∀ {k o}, (k, o) ∈ Mk -> (k, o) ∈ M := fun h => by rw [hMv]; exact List.mem_cons_of_mem _ h
 let osk := Mk.map (·.2)
 have homk : om ∉ osk := fun ho => by
   have := hMo
   rw [hMv, List.map_cons, List.nodup_cons] at this
   exact this.1 ho
 have h' := h.take hom
 have hlk : ∀ o, look (st.kill om).ob o = if om = o then none else look st.ob o := yj st om
 have hos2 : ∀ o, o ∈ os -> o = om \/ o ∈ osk := fun o ho => by
   have ho' : o ∈ M.map (·.2) := ho
   rw [hMv, List.map_cons] at ho'
   exact List.mem_cons.1 ho'
 have hnew : ∀ k o, (k, o) ∈ Mk -> ∃ x y, look st.ob o = some x /\ look st'.ob k = some y /\ x.like y := fun k o hm => by
   obtain ⟨_, x, g1, g2, _⟩ := ZD hM k o (hsub hm)
   obtain ⟨x', y, g3, g4, g5⟩ := zat hlike k o hm
   rw [g2] at g3; cases g3
   exact ⟨x, y, g1, g4, g5⟩
 have hnewo : ∀ o, o ∈ osk -> ∃ k y, (k, o) ∈ Mk /\ look st'.ob k = some y /\ look (xL st'.ob Mk) o = some y := fun o ho => by
   obtain ⟨k, hm, hl'⟩ := (xh st'.ob Mk o).1 ho
   obtain ⟨x, y, _, g2, _⟩ := hnew k o hm
   rw [g2] at hl'
   exact ⟨k, y, hm, g2, hl'⟩
 have hlook : ∀ o, look ((st.kill om).wrote Mk st'.ob).ob o = if o ∈ osk then look (xL st'.ob Mk) o else look (st.kill om).ob o := fun o => by
   simp only [St.wrote, Yy, Zy]
   by_cases ho : o ∈ osk
   · obtain ⟨k, y, _, _, g⟩ := hnewo o ho
     have ho' : o ∈ Mk.map (·.2) := ho
     simp only [if_pos ho', if_pos ho, g, Option.or_none]
   · have hn := (xh st'.ob Mk o).2 ho
     have ho' : o ∉ Mk.map (·.2) := ho
     simp only [if_neg ho', if_neg ho, hn, Option.none_or]
 let ghn : Gh := { S := gc.S, hv := gh.hv, bb := gh.bb, bo := gh.bo, F := fun o => if o ∈ osk then (fun b => ∃ k, (k, o) ∈ Mk /\ gc.F k b) else gh.F o }
 have gin : ∀ k o, (k, o) ∈ Mk -> ghn.F o = gc.F k := fun k o hm => by
   have ho : o ∈ osk := List.mem_map.2 ⟨(k, o), hm, rfl⟩
   simp only [ghn, if_pos ho]
   funext b
   exact propext ⟨fun ⟨k', hm', hb⟩ => by have := ZK hMo (hsub hm) (hsub hm'); subst this; exact hb, fun hb => ⟨k, hm, hb⟩⟩
 have gout : ∀ o, o ∉ osk -> ghn.F o = gh.F o := fun o ho => by simp only [ghn]; rw [if_neg ho]
 have hpn : ∀ k o, (k, o) ∈ Mk -> gc.hv k = gh.hv o /\ gc.bb k = gh.bb o /\ gc.bo k = gh.bo o := fun k o hm => by
   have hkl := yb hMk (hsub hm)
   obtain ⟨x, y, _, g2, _⟩ := hnew k o hm
   have hp := hR.pins k (gh0.hv k, gh0.bb k, gh0.bo k) (by simp only [C0]; rw [if_pos (hosm k o hkl).2.1]) (by rw [g2]; simp)
   obtain ⟨g1, g2, g3⟩ := hv0 k o hkl
   rw [g1, g2, g3] at hp
   simp only [Prod.mk.injEq] at hp
   exact hp
 have newB : ∀ b, (w.heap.size <= b \/ ∃ f, may b f) -> (∃ o', o' ∈ osk /\ gh.F o' b) \/ (No b \/ gh.F om b) \/ w.heap.size <= b := fun b hb => by
   rcases hb with hb | ⟨f, hb⟩
   · exact Or.inr (Or.inr hb)
   · obtain ⟨o, x, ho, _, hF⟩ := mayos b f hb
     rcases hos2 o ho with rfl | ho
     · exact Or.inr (Or.inl (Or.inr hF))
     · exact Or.inl ⟨o, ho, hF⟩
 have fullB : ∀ b, (w.heap.size <= b \/ ∃ f, may b f) -> C.z b := fun b hb => hfull b (by
   rcases hb with hb | ⟨f, hb⟩
   · exact Or.inl (Nat.le_trans h.size hb)
   · exact (wr1 b f hb).imp id (fun hh => ⟨f, hh⟩))
 have cF : ∀ k o, (k, o) ∈ Mk -> ∀ b, gc.F k b -> (w.heap.size <= b \/ ∃ f, may b f) /\ (∀ y, look st'.ob k = some y -> (∀ cs, y = .box cs -> b ≠ gh.bb o) -> C.w0.heap.size <= b \/ ∀ f, C.may b f) := fun k o hm b hb => by
   obtain ⟨x, y, g1, g2, g3⟩ := hnew k o hm
   have hp := hpn k o hm
   have all : (∀ cs, y = .box cs -> b ≠ gh.bb o) -> w.heap.size <= b \/ ∀ f, may b f := fun hc => by
     cases y with
     | row e es => exact hR.wrR k e es b g2 hb
     | box cs => exact hR.wrB k cs b g2 hb (by rw [hp.2.1]; exact hc cs rfl)
   refine ⟨?_, fun y' hy' hc => ?_⟩
   · by_cases hbb : b = gh.bb o /\ ∃ cs, y = .box cs
     · obtain ⟨he, cs, rfl⟩ := hbb
       cases x with
       | row e es => simp [Ob.like] at g3
       | box cs0 =>
         have hob := h.obs o _ g1
         have hFb : gh.F o (gh.bb o) := by
           cases hob with
           | box xs G hb hl h1 hc hxx dis nb hF => exact (hF _).2 (Or.inl rfl)
         by_cases hn : 0 < cs0.length
         · exact Or.inr ⟨gh.bo o, k, o, _, yb hMk (hsub hm), g1, by rw [he]; exact hFb, fun cs' hc _ => by cases hc; omega⟩
         · obtain ⟨_, x1, q1, _, q3⟩ := ZD hM k o (hsub hm)
           rw [g1] at q1; cases q1
           exact (q3 (by rw [List.eq_nil_of_length_eq_zero (by omega : cs0.length = 0)])).elim
     · exact (all (fun cs hc he => hbb ⟨he, cs, hc⟩)).imp id (fun hh => ⟨0, hh 0⟩)
   · rw [g2] at hy'; cases hy'
     rcases all hc with hh | hh
     · exact Or.inl (Nat.le_trans h.size hh)
     · exact wrA b hh
 have hin : Rep P C (ZZ rs G) ((st.kill om).wrote Mk st'.ob) a w' ghn := by
   refine h'.multiX osk ghn (ZZ rs G) (fun o ho => by rw [hlook, if_neg ho]) (fun t => by unfold St.get St.wrote; simp only [xT]; cases look (st.kill om).tm t <;> simp [xi, osk]) rfl
     (fun o ho => by
       obtain ⟨k, y, hm, g2, g3⟩ := hnewo o ho
       obtain ⟨x, y', g4, g5, g6⟩ := hnew k o hm
       rw [g2] at g5; cases g5
       exact ⟨x, y, by rw [hlk, if_neg (fun e => homk (by rw [e]; exact ho))]; exact g4, by rw [hlook, if_pos ho]; exact g3, g6⟩)
     ⟨rfl, rfl, rfl⟩ gout hk.size
     (fun o x k ho hx hk' => by
       rw [hlk] at hx
       split at hx
       · cases hx
       · rename_i hne
         exact heap k ((h.obs o x hx).lt k hk') (fun ⟨f, hm⟩ => by
           obtain ⟨o', x', ho', hx', hF⟩ := mayos k f hm
           have := h.dis o o' x _ k hx hx' hk' hF
           subst this
           rcases hos2 o ho' with e | e
           · exact hne e.symm
           · exact ho e))
     (fun k hk' => heap k (h.sS k hk') (fun ⟨f, hm⟩ => by
       obtain ⟨o', x', ho', hx', hF⟩ := mayos k f hm
       exact h.nS o' _ k hx' hF hk'))
     (World.keptBut_mono (fun p hp => by
       obtain ⟨b, f, e, hm⟩ := hp
       exact ⟨b, f, e, wr1 b f hm⟩) hk)
     (fun k hk' => hR.s0S k hk')
     (fun k hk' => ⟨hR.sS k hk', by
       rcases hR.sZ k hk' with hz | hz
       · exact ⟨h.sZ k hz, Or.inl hz⟩
       · refine ⟨fullB k hz, Or.inr ?_⟩
         rcases newB k hz with hh | hh | hh
         · exact Or.inl hh
         · exact Or.inr (Or.inl hh)
         · exact Or.inr (Or.inr hh)⟩)
     (fun o ho y hy => by
       rw [hlook, if_pos ho] at hy
       obtain ⟨k, y', hm, g2, g3⟩ := hnewo o ho
       rw [g3] at hy; cases hy
       obtain ⟨p1, p2, p3⟩ := hpn k o hm
       exact (hR.obs k _ g2).at (gh' := ghn) rfl p1.symm p2.symm p3.symm (gin k o hm))
     (fun o ho b hb => by
       obtain ⟨k, y, hm, g2, g3⟩ := hnewo o ho
       rw [gin k o hm] at hb
       rcases newB b (cF k o hm b hb).1 with hh | hh | hh
       · exact Or.inl hh
       · exact Or.inr (Or.inl hh)
       · exact Or.inr (Or.inr hh))
     (fun o o' b ho ho' hb hb' => by
       obtain ⟨k, y, hm, g2, g3⟩ := hnewo o ho
       obtain ⟨k', y', hm', g2', g3'⟩ := hnewo o' ho'
       rw [gin k o hm] at hb
       rw [gin k' o' hm'] at hb'
       have := hR.dis k k' _ _ b g2 g2' hb hb'
       subst this
       have h1 := yb hMk (hsub hm)
       have h2 := yb hMk (hsub hm')
       rw [h1] at h2; cases h2; rfl)
     (fun o b ho hb => by
       obtain ⟨k, y, hm, g2, g3⟩ := hnewo o ho
       rw [gin k o hm] at hb
       exact hR.nS k _ b g2 hb)
     (fun o b y ho hy hb hc => by
       obtain ⟨k, y', hm, g2, g3⟩ := hnewo o ho
       rw [hlook, if_pos ho, g3] at hy; cases hy
       rw [gin k o hm] at hb
       exact (cF k o hm b hb).2 _ g2 hc)
     (fun b hb => ⟨hR.xl b hb, hR.xS b hb, by
       rcases hR.xW b hb with hw | hw
       · exact Or.inl (Nat.le_trans h.size hw)
       · exact wrA b hw, by
       rcases hR.xW b hb with hw | hw
       · exact Or.inr (Or.inr hw)
       · obtain ⟨o, x, ho, _, hF, _⟩ := allmay b hw
         rcases hos2 o ho with rfl | ho
         · exact Or.inr (Or.inl (Or.inr hF))
         · exact Or.inl ⟨o, ho, hF⟩⟩)
     (fun o b ho hb hX => by
       obtain ⟨k, y, hm, g2, g3⟩ := hnewo o ho
       rw [gin k o hm] at hb
       exact hR.xF k _ b g2 hX hb)
 have hres' : Res P w' ghn.S rs vs' G := hres
 cases d with
 | none => exact ⟨_, ghn, hK rs st' hpost, hin.less (fun k hk => hk.elim)⟩
 | some d =>
   obtain ⟨gh2, hr2, hn2, hl2, hv2, _, _⟩ := Yk d rs vs' G 0 hin hpin hres' (fun b hb => hb)
   refine ⟨_, gh2, hK rs st' hpost, ?_⟩
   simp only [Xk]
   refine (hr2.less (X' := No) (fun k hk => hk.elim)).set (by rw [hn2]; exact hd d rfl) ?_
   match rs, vs', hl2, hv2 with
   | [], [], _, hv2 => exact .tup rfl (fun i v hi => by simp [vsR] at hi)
   | [r], [v], _, hv2 => exact hv2 0 _ _ rfl rfl
   | r :: r2 :: rs, v :: v2 :: vs, hl2, hv2 =>
     refine .tup (by simp [<- hl2]) (fun i x hi => ?_)
     have hil := (List.getElem?_eq_some_iff.1 hi).1
     have hvi : (v :: v2 :: vs)[i]? = some (v :: v2 :: vs)[i] := List.getElem?_eq_getElem (by omega)
     have := hv2 i x _ hi hvi
     simpa [Array.getD_eq_getD_getElem?, hvi] using this
   | [], v :: vs, hl2, _ => simp [vsR] at hl2
   | r :: rs, [], hl2, _ => simp [vsR] at hl2
   | [r], v :: v2 :: vs, hl2, _ => simp [vsR] at hl2
   | r :: r2 :: rs, [v], hl2, _ => simp [vsR] at hl2
theorem zeS {f : FuncId} {km om : Nat} {em : TypeId} {esm : List (List D)} {ts : (Nat -> Value) -> List V} {iob N : List (Nat × Ob)} {R : List RV} (hs : SoundAt P f ts iob (fun rs st => rs = R /\ yh st.ob N)) (hpin : ∀ o, xj o = false -> C.pin o = none) (hfull : C.full) (M Mk Mr Mb : List (Nat × Nat)) {vs : List V} {d : Option Nat}
   (hMM : M = Mr ++ Mb /\ M = (km, om) :: Mk /\ Xc (M.map (·.1)) = true /\ Xc (M.map (·.2)) = true /\ iob.map (·.1) = M.map (·.1)) (hom : look st.ob om = some (.row em esm)) (hl : ∀ uf, Yd ⟨Mr, uf, pvOf C, [], iob⟩ Mb vs (ts uf))
   (h : ioIs st iob M /\ Xp st Mr /\ XZ iob N Mk /\ ev (b := ⟨K⟩) (Xk ((st.kill om).wrote Mk N) d R)) : Xm (b := ⟨K⟩) P C st f vs d := by
 refine zoF hs (pin3 hpin) hfull M Mk Mr Mb hMM.1 hMM.2.1 hom h.1 h.2.1 (YK hMM.2.2.1) (YK hMM.2.2.2.1) hMM.2.2.2.2 hl (fun rs st' hr => ?_) (fun rs st' hr => ?_)
 · exact (xX (Zq hr.2) Mk h.2.2.1).2
 · have e : (st.kill om).wrote Mk st'.ob = (st.kill om).wrote Mk N := by unfold St.wrote; rw [(xX (Zq hr.2) Mk h.2.2.1).1]
   rw [hr.1, e]; exact h.2.2.2
def St.own (st : St) (t : Nat) (e : TypeId) (o : Nat) : St := match look st.ob o with
 | none => (match st.get t with
   | .nil _ => (st.put o (.row e [])).set t (.ref o [] 0)
   | .sc (.slice none 0 0) => (st.put o (.row e [])).set t (.ref o [] 0)
   | _ => st)
 | _ => st
theorem Ent.own (t : Nat) (e : TypeId) (o : Nat) (hp : C.pin o = none) : Ent P C st (st.own t e o) := fun a w gh h => by
 have key : ∀ (ho : look st.ob o = none), a.tmps.getD t undef = .slice none 0 0 -> ∃ gh', Rep P C No ((st.put o (.row e [])).set t (.ref o [] 0)) a w gh' := fun ho hu => by
   have h1 : ObR P w (gh.upd o (.slice none 0 0) 0 0 (fun _ => False)) o (.row e []) := .row (by
     have : Ow P w gh.S (.sc (.slice none 0 0)) (.slice none 0 0) (fun _ => False) := .sc rfl
     simpa [Gh.upd] using this.nilr (e := e))
   have h2 := (h.lay ho hp h1 (fun k hk => hk.elim)).less (X' := No) (fun k hk => hk.elim)
   refine ⟨_, h2.set0 ?_⟩
   rw [hu]
   refine .ref (x := .row e []) (e := e) (es := []) (A := none) (c := 0) (xo _ _ _) ?_ (Nat.le_refl _)
   have : (gh.upd o (.slice none 0 0) 0 0 (fun _ => False)).hv o = .slice none 0 0 := by simp [Gh.upd]
   show Nav P w (.row false e []) ((gh.upd o (.slice none 0 0) 0 0 (fun _ => False)).hv o) [] (.row false e []) (.slice none 0 0)
   rw [this]
   exact .nil
 unfold St.own
 split
 · rename_i ho
   have ht := h.tms t
   split
   · rename_i he
     rw [he] at ht
     refine key ho ?_
     generalize a.tmps.getD t undef = u at ht
     cases ht; rfl
   · rename_i he
     rw [he] at ht
     refine key ho ?_
     generalize a.tmps.getD t undef = u at ht
     cases ht; rfl
   · exact ⟨gh, h⟩
 · exact ⟨gh, h⟩
def SoundAtN (P : Program) (f : FuncId) (ts : (Nat -> Value) -> List V) (ob0 : List (Nat × Ob)) (post : List RV -> St -> Prop) : Prop :=
 ZX P f = true /\ ∀ (uf : Nat -> Value) (ub : Nat -> Nat × Nat) (C : Cx) (w : World) (gh : Gh) (us : Array Value), C.w0 = w -> (∀ o, xj o = false -> C.pin o = none) -> (∀ o, xj o = true -> C.pin o = some (uf o, ub o)) -> us.size = (ts uf).length ->
   Rep P C No ⟨us.size, zipT 0 (ts uf), ob0⟩ ⟨us, []⟩ w gh ->
   Calls P f us w (fun e w' => ∃ (vs : List Value) (rs : List RV) (st' : St) (a' : Act) (gh' : Gh) (G : Nat -> Nat -> Nat -> Prop), e = .returned (tupV vs) /\ post rs st' /\ Res P w' gh'.S rs vs G /\ Rep P C (ZZ rs G) st' a' w' gh')
theorem SoundAtN.at {f : FuncId} {ts : (Nat -> Value) -> List V} {ob0 : List (Nat × Ob)} {post : List RV -> St -> Prop} (h : SoundAtN P f ts ob0 post) : SoundAt P f ts ob0 post :=
 ⟨h.1, fun uf ub C w gh us h1 h2 h3 _ h5 h6 => h.2 uf ub C w gh us h1 h2 h3 h5 h6⟩
theorem zkT {f : FuncId} {fn : Func} {c : Code} {res : List RR} {n : Nat} {ts : (Nat -> Value) -> List V} {ob0 : List (Nat × Ob)} {post : List RV -> St -> Prop} (hz : Za P) (hf : P.funcs[f]? = some fn) (hb : fn.body = some c) (hen : ZX P f = true) (hres : fn.results.toList = res.map RR.var)
   (hn : fn.ntmps = n) (hnt : ∀ uf, (ts uf).length <= n) (h : ∀ (uf : Nat -> Value) (ub : Nat -> Nat × Nat) (C : Cx), (∀ o, xj o = false -> C.pin o = none) -> (∀ o, xj o = true -> C.pin o = some (uf o, ub o)) -> Tri P C ⟨n, zipT 0 (ts uf), ob0⟩ c (FinE P res post)) : SoundAtN P f ts ob0 post := by
 refine ⟨hen, fun uf ub C w gh us hw hpin hpin2 hus hR => ?_⟩
 have hnt := hnt uf
 have hrep : Rep P C No ⟨n, zipT 0 (ts uf), ob0⟩ { tmps := us ++ Array.replicate (fn.ntmps - us.size) undef, defers := [] } w gh := {
     obs := hR.obs, dis := hR.dis, sS := hR.sS, nS := hR.nS, wrR := hR.wrR, wrB := hR.wrB, wrC := hR.wrC, kept := hR.kept, pins := hR.pins
     tms := fun t => by
       have ht := hR.tms t
       have e1 : St.get ⟨n, zipT 0 (ts uf), ob0⟩ t = St.get ⟨us.size, zipT 0 (ts uf), ob0⟩ t := rfl
       rw [e1]
       by_cases hlt : t < us.size
       · have e2 : (us ++ Array.replicate (fn.ntmps - us.size) undef).getD t undef = us.getD t undef := by
           rw [Array.getD_eq_getD_getElem?, Array.getD_eq_getD_getElem?, Array.getElem?_append_left hlt]
         simp only [e2]; exact ht
       · have e3 : St.get ⟨us.size, zipT 0 (ts uf), ob0⟩ t = .dead := by
           unfold St.get; simp only [xR, Nat.zero_le, if_true, Nat.sub_zero]
           rw [List.getElem?_eq_none (by omega)]; rfl
         rw [e3]; exact .dead
     nt := by simp only [Array.size_append, Array.size_replicate]; omega
     dfs := rfl
     xl := hR.xl, xS := hR.xS, xF := hR.xF, xW := hR.xW, s0S := hR.s0S, sZ := hR.sZ }
 refine calls_of_wp hf hb (Code.wp_mono (fun e a' w' hh => ?_) (h uf ub C hpin hpin2 _ w gh hrep))
 obtain ⟨st', gh', hk, hr⟩ := hh
 cases e with
 | normal => exact Xh hres hr hk
 | ret => exact Xh hres hr hk
 | _ => exact hk.elim
theorem znq {f : FuncId} {ts : (Nat -> Value) -> List V} {iob : List (Nat × Ob)} {post : List RV -> St -> Prop} (hs : SoundAtN P f ts iob post) (hpin : ∀ n, 3000 <= n -> C.pin n = none) (M Mr Mb : List (Nat × Nat)) (hMM : M = Mr ++ Mb) {vs : List V} {d : Option Nat}
   (hM : ioIs st iob M) (hMr : Xp st Mr) (hMk : (M.map (·.1)).Nodup) (hMo : (M.map (·.2)).Nodup) (hiob : iob.map (·.1) = M.map (·.1)) (hl : ∀ uf, Yd ⟨Mr, uf, pvOf C, [], iob⟩ Mb vs (ts uf))
   (hns : ∀ rs st', post rs st' -> XZ iob st'.ob M) (hK : ∀ rs st', post rs st' -> ev (b := ⟨K⟩) (Xk (st.wrote M st'.ob) d rs)) : zlB P C st f vs d K := by
 refine Or.inl ⟨hs.1, fun a w gh us h hus hv hd => ?_⟩
 classical
 let os := M.map (·.2)
 let gh0 : Gh := { S := gh.S, hv := fun k => match look M k with | some o => gh.hv o | none => undef, bb := fun k => match look M k with | some o => gh.bb o | none => 0, bo := fun k => match look M k with | some o => gh.bo o | none => 0, F := fun k b => ∃ o, look M k = some o /\ gh.F o b }
 let may : Nat -> Nat -> Prop := fun b f => ∃ k o x, look M k = some o /\ look st.ob o = some x /\ gh.F o b /\ (∀ cs, x = .box cs -> b = gh.bb o -> gh.bo o <= f /\ f < gh.bo o + cs.length)
 let C0 : Cx := { w0 := w, s0 := gh0.S, may := may, pin := fun k => if xj k = true then some (gh0.hv k, gh0.bb k, gh0.bo k) else none, z := gh.S }
 obtain ⟨hlen, hl⟩ := YM (hl gh0.hv)
 have hosm : ∀ k o, look M k = some o -> o ∈ os /\ xj k = true /\ ∃ x, look st.ob o = some x /\ look iob k = some x := fun k o hk => by
   have hm := yr hk
   obtain ⟨g1, x, g2, g3, _⟩ := ZD hM k o hm
   exact ⟨List.mem_map.2 ⟨(k, o), hm, rfl⟩, g1, x, g2, g3⟩
 have hiobM : ∀ k x, look iob k = some x -> ∃ o, look M k = some o /\ look st.ob o = some x := fun k x hx => by
   have h1 : k ∈ iob.map (·.1) := List.mem_map.2 ⟨(k, x), yr hx, rfl⟩
   rw [hiob] at h1
   obtain ⟨⟨k', o⟩, hm, rfl⟩ := List.mem_map.1 h1
   have hk := yb hMk hm
   obtain ⟨_, _, x', g1, g2⟩ := hosm _ _ hk
   rw [hx] at g2; cases g2
   exact ⟨o, hk, g1⟩
 have hF0 : ∀ k o, look M k = some o -> gh0.F k = gh.F o := fun k o hk => by
   funext b; exact propext ⟨fun ⟨o', ho', hb⟩ => by rw [hk] at ho'; cases ho'; exact hb, fun hb => ⟨o, hk, hb⟩⟩
 have hv0 : ∀ k o, look M k = some o -> gh0.hv k = gh.hv o /\ gh0.bb k = gh.bb o /\ gh0.bo k = gh.bo o := fun k o hk => by simp only [gh0, hk, and_self]
 have hrep : Rep P C0 No ⟨us.size, zipT 0 (ts gh0.hv), iob⟩ ⟨us, []⟩ w gh0 := {
   obs := fun k b hb => by
     obtain ⟨o, hk, ho⟩ := hiobM k b hb
     obtain ⟨g1, g2, g3⟩ := hv0 k o hk
     exact (h.obs o b ho).at (gh' := gh0) rfl g1 g2 g3 (hF0 k o hk)
   dis := fun k k' b b' q hb hb' ⟨o, ho, hq⟩ ⟨o', ho', hq'⟩ => by
     obtain ⟨_, _, x, g1, _⟩ := hosm k o ho
     obtain ⟨_, _, x', g1', _⟩ := hosm k' o' ho'
     have := h.dis o o' _ _ q g1 g1' hq hq'
     subst this
     exact ZK hMo (yr ho) (yr ho')
   sS := h.sS
   nS := fun k b q hb ⟨o, ho, hq⟩ hS => by
     obtain ⟨g0, _, x, g1, _⟩ := hosm k o ho
     exact h.nS o _ q g1 hq hS
   wrR := fun k e es q hb ⟨o, ho, hq⟩ => Or.inr (fun f => by
     obtain ⟨_, _, x, g1, g2⟩ := hosm k o ho
     have hb : look iob k = some (.row e es) := hb
     rw [g2] at hb; cases hb
     exact ⟨k, o, _, ho, g1, hq, fun cs hc => by cases hc⟩)
   wrB := fun k cs q hb ⟨o, ho, hq⟩ hne => Or.inr (fun f => by
     obtain ⟨_, _, x, g1, g2⟩ := hosm k o ho
     exact ⟨k, o, _, ho, g1, hq, fun cs' _ he => (hne (by rw [(hv0 k o ho).2.1]; exact he)).elim⟩)
   wrC := fun k cs j hb hj => Or.inr (by
     obtain ⟨o, hk, ho⟩ := hiobM k _ hb
     obtain ⟨g1, g2, g3⟩ := hv0 k o hk
     rw [g2, g3]
     refine ⟨k, o, _, hk, ho, ?_, fun cs' hc _ => by cases hc; exact ⟨by omega, by omega⟩⟩
     have := h.obs o _ ho
     cases this with
     | box xs G hb hl h1 hc hxx dis nb hF => exact (hF _).2 (Or.inl rfl))
   kept := World.keptBut_refl w _
   pins := fun k x hp hn => by
     simp only [C0] at hp
     split at hp
     · cases hp; rfl
     · cases hp
   tms := fun t => by
     have e1 : St.get ⟨us.size, zipT 0 (ts gh0.hv), iob⟩ t = ((ts gh0.hv)[t]?).getD .dead := by
       unfold St.get; simp only [xR, Nat.zero_le, if_true, Nat.sub_zero]
     rw [e1]
     cases hi : (ts gh0.hv)[t]? with
     | none => exact .dead
     | some x =>
       have hlt := (List.getElem?_eq_some_iff.1 hi).1
       have hvt : vs[t]? = some vs[t] := List.getElem?_eq_getElem (by omega)
       have hle := hl t _ x hvt hi
       have hvr := hv t _ hvt
       simp only [Option.getD_some]
       have low : xD ⟨Mr, gh0.hv, pvOf C, [], iob⟩ vs[t] x -> VR P w gh0 iob x (us.getD t undef) := fun hle => by
         refine Xf (gh0 := gh0) (L := ⟨Mr, gh0.hv, pvOf C, [], iob⟩) (fun k o hk => ?_) (fun o v hv hso => ?_) h.obs (fun k hk => hk) (fun o x k hx hk => by simp [look] at hx) (fun o x hx => by simp [look] at hx) hvr hle
         · have hmm : (k, o) ∈ M := by rw [hMM]; exact List.mem_append_left _ hk
           have hk' := yb hMk hmm
           obtain ⟨_, _, x', g1, g2⟩ := hosm k o hk'
           obtain ⟨e, es, g3⟩ := Xo hMr k o hk
           rw [g3] at g1; cases g1
           exact ⟨e, es, g3, g2, (hv0 k o hk').1, rfl⟩
         · obtain ⟨x, hx, rfl⟩ := Option.map_eq_some_iff.1 hv
           have := h.pins o x hx (fun e => by rw [e] at hso; cases hso)
           rw [<- this]
       unfold zfC at hle
       split at hle
       · rename_i o j heq
         rw [heq] at hvr
         split at hle
         · rename_i k j'
           obtain ⟨hk0, rfl⟩ := hle
           have hmm : (k, o) ∈ M := by rw [hMM]; exact List.mem_append_right _ (yr hk0)
           have hk' := yb hMk hmm
           obtain ⟨g1, g2, g3⟩ := hv0 k o hk'
           obtain ⟨_, _, x', g4, g5⟩ := hosm k o hk'
           generalize us.getD t undef = u0 at hvr
           cases hvr with
           | bp hx =>
             rw [hx] at g4; cases g4
             have := VR.bp (P := P) (w := w) (gh := gh0) (j := j) g5
             rw [g2, g3] at this; exact this
         · exact hle.elim
       · rename_i ch j heq
         rw [heq] at hvr
         split at hle
         · obtain ⟨rfl, rfl⟩ := hle
           generalize us.getD t undef = u0 at hvr
           cases hvr with
           | ip U hs' h' => exact .ip U hs' h'
         · exact hle.elim
       · exact low hle
   nt := Nat.le_refl _
   dfs := rfl
   xl := fun k hk => hk.elim
   xS := fun k hk => hk.elim
   xF := fun o b k hb hk => hk.elim
   xW := fun k hk => hk.elim
   s0S := fun k hk => hk
   sZ := fun k hk => hk }
 refine (hs.2 gh0.hv (fun o => (gh0.bb o, gh0.bo o)) C0 w gh0 us rfl (fun o ho => by simp only [C0, ho]; rfl) (fun o ho => by simp only [C0, ho]; rfl) (by omega) hrep).mono (fun e w' he => ?_)
 obtain ⟨vs', rs, st', a', gc, G, rfl, hpost, hres, hR⟩ := he
 refine ⟨tupV vs', rfl, ?_⟩
 have hlike := hns rs st' hpost
 have hk := hR.kept
 have mayos : ∀ b f, may b f -> ∃ o x, o ∈ os /\ look st.ob o = some x /\ gh.F o b := fun b f ⟨k, o, x, hk, hx, hb, _⟩ => ⟨o, x, (hosm k o hk).1, hx, hb⟩
 have allmay : ∀ b, (∀ f, may b f) -> ∃ o x, o ∈ os /\ look st.ob o = some x /\ gh.F o b /\ ∀ cs, x = .box cs -> b ≠ gh.bb o := fun b hb => by
   obtain ⟨k, o, x, hk, hx, hF, _⟩ := hb 0
   refine ⟨o, x, (hosm k o hk).1, hx, hF, fun cs hc he => ?_⟩
   obtain ⟨k2, o2, x2, hk2, hx2, hF2, h2⟩ := hb (gh.bo o + cs.length)
   have := h.dis o o2 _ _ b hx hx2 hF hF2
   subst this
   rw [hx] at hx2; cases hx2
   have := h2 cs hc he
   omega
 have wr0 : ∀ o x b, look st.ob o = some x -> gh.F o b -> (∀ cs, x = .box cs -> b ≠ gh.bb o) -> C.w0.heap.size <= b \/ ∀ f, C.may b f := fun o x b hx hb hc => by
   cases x with
   | row e es => exact h.wrR o e es b hx hb
   | box cs => exact h.wrB o cs b hx hb (hc cs rfl)
 have wrA : ∀ b, (∀ f, may b f) -> C.w0.heap.size <= b \/ ∀ f, C.may b f := fun b hb => by
   obtain ⟨o, x, _, hx, hF, hc⟩ := allmay b hb
   exact wr0 o x b hx hF hc
 have wr1 : ∀ b f, may b f -> C.w0.heap.size <= b \/ C.may b f := fun b f ⟨k, o, x, hk, hx, hF, hc⟩ => by
   by_cases hbx : ∀ cs, x = .box cs -> b ≠ gh.bb o
   · exact (wr0 o x b hx hF hbx).imp id (fun hh => hh f)
   · simp only [Classical.not_forall] at hbx
     obtain ⟨cs, hcs, hne⟩ := hbx
     have he : b = gh.bb o := Classical.not_not.1 hne
     subst hcs
     obtain ⟨g1, g2⟩ := hc cs rfl he
     have := h.wrC o cs (f - gh.bo o) hx (by omega)
     rw [show gh.bo o + (f - gh.bo o) = f by omega] at this
     rw [he]; exact this
 have heap : ∀ k, k < w.heap.size -> ¬ (∃ f, may k f) -> w'.heap[k]? = w.heap[k]? := by
   intro k hk' hn
   refine xb hk hk' (fun f hm => ?_) (fun hm => ?_)
   · obtain ⟨b, f', e, hm⟩ := hm
     injection e with e1 e2
     rw [<- e1, <- e2] at hm
     exact hn ⟨f, hm⟩
   · obtain ⟨b, f', e, _⟩ := hm
     cases e
 have hnew : ∀ k o, (k, o) ∈ M -> ∃ x y, look st.ob o = some x /\ look st'.ob k = some y /\ x.like y := fun k o hm => by
   obtain ⟨_, x, g1, g2, _⟩ := ZD hM k o hm
   obtain ⟨x', y, g3, g4, g5⟩ := zat hlike k o hm
   rw [g2] at g3; cases g3
   exact ⟨x, y, g1, g4, g5⟩
 have hnewo : ∀ o, o ∈ os -> ∃ k y, (k, o) ∈ M /\ look st'.ob k = some y /\ look (xL st'.ob M) o = some y := fun o ho => by
   obtain ⟨k, hm, hl'⟩ := (xh st'.ob M o).1 ho
   obtain ⟨x, y, _, g2, _⟩ := hnew k o hm
   rw [g2] at hl'
   exact ⟨k, y, hm, g2, hl'⟩
 have hlook : ∀ o, look (st.wrote M st'.ob).ob o = if o ∈ os then look (xL st'.ob M) o else look st.ob o := fun o => by
   simp only [St.wrote, Yy, Zy]
   by_cases ho : o ∈ os
   · obtain ⟨k, y, _, _, g⟩ := hnewo o ho
     have ho' : o ∈ M.map (·.2) := ho
     simp only [if_pos ho', if_pos ho, g, Option.or_none]
   · have hn := (xh st'.ob M o).2 ho
     have ho' : o ∉ M.map (·.2) := ho
     simp only [if_neg ho', if_neg ho, hn, Option.none_or]
 let ghn : Gh := { S := gc.S, hv := gh.hv, bb := gh.bb, bo := gh.bo, F := fun o => if o ∈ os then (fun b => ∃ k, (k, o) ∈ M /\ gc.F k b) else gh.F o }
 have gin : ∀ k o, (k, o) ∈ M -> ghn.F o = gc.F k := fun k o hm => by
   have ho : o ∈ os := List.mem_map.2 ⟨(k, o), hm, rfl⟩
   simp only [ghn, if_pos ho]
   funext b
   exact propext ⟨fun ⟨k', hm', hb⟩ => by have := ZK hMo hm hm'; subst this; exact hb, fun hb => ⟨k, hm, hb⟩⟩
 have gout : ∀ o, o ∉ os -> ghn.F o = gh.F o := fun o ho => by simp only [ghn]; rw [if_neg ho]
 have hpn : ∀ k o, (k, o) ∈ M -> gc.hv k = gh.hv o /\ gc.bb k = gh.bb o /\ gc.bo k = gh.bo o := fun k o hm => by
   have hkl := yb hMk hm
   obtain ⟨x, y, _, g2, _⟩ := hnew k o hm
   have hp := hR.pins k (gh0.hv k, gh0.bb k, gh0.bo k) (by simp only [C0]; rw [if_pos (hosm k o hkl).2.1]) (by rw [g2]; simp)
   obtain ⟨g1, g2, g3⟩ := hv0 k o hkl
   rw [g1, g2, g3] at hp
   simp only [Prod.mk.injEq] at hp
   exact hp
 have newB : ∀ b, (w.heap.size <= b \/ ∃ f, may b f) -> (∃ o', o' ∈ os /\ gh.F o' b) \/ No b \/ w.heap.size <= b := fun b hb => by
   rcases hb with hb | ⟨f, hb⟩
   · exact Or.inr (Or.inr hb)
   · obtain ⟨o, x, ho, _, hF⟩ := mayos b f hb
     exact Or.inl ⟨o, ho, hF⟩
 have cF : ∀ k o, (k, o) ∈ M -> ∀ b, gc.F k b -> (w.heap.size <= b \/ ∃ f, may b f) /\ (∀ y, look st'.ob k = some y -> (∀ cs, y = .box cs -> b ≠ gh.bb o) -> C.w0.heap.size <= b \/ ∀ f, C.may b f) := fun k o hm b hb => by
   obtain ⟨x, y, g1, g2, g3⟩ := hnew k o hm
   have hp := hpn k o hm
   have all : (∀ cs, y = .box cs -> b ≠ gh.bb o) -> w.heap.size <= b \/ ∀ f, may b f := fun hc => by
     cases y with
     | row e es => exact hR.wrR k e es b g2 hb
     | box cs => exact hR.wrB k cs b g2 hb (by rw [hp.2.1]; exact hc cs rfl)
   refine ⟨?_, fun y' hy' hc => ?_⟩
   · by_cases hbb : b = gh.bb o /\ ∃ cs, y = .box cs
     · obtain ⟨he, cs, rfl⟩ := hbb
       cases x with
       | row e es => simp [Ob.like] at g3
       | box cs0 =>
         have hob := h.obs o _ g1
         have hFb : gh.F o (gh.bb o) := by
           cases hob with
           | box xs G hb hl h1 hc hxx dis nb hF => exact (hF _).2 (Or.inl rfl)
         by_cases hn : 0 < cs0.length
         · exact Or.inr ⟨gh.bo o, k, o, _, yb hMk hm, g1, by rw [he]; exact hFb, fun cs' hc _ => by cases hc; omega⟩
         · obtain ⟨_, x1, q1, _, q3⟩ := ZD hM k o hm
           rw [g1] at q1; cases q1
           exact (q3 (by rw [List.eq_nil_of_length_eq_zero (by omega : cs0.length = 0)])).elim
     · exact (all (fun cs hc he => hbb ⟨he, cs, hc⟩)).imp id (fun hh => ⟨0, hh 0⟩)
   · rw [g2] at hy'; cases hy'
     rcases all hc with hh | hh
     · exact Or.inl (Nat.le_trans h.size hh)
     · exact wrA b hh
 have hin : Rep P C (ZZ rs G) (st.wrote M st'.ob) a w' ghn := by
   refine h.multiX os ghn (ZZ rs G) (fun o ho => by rw [hlook, if_neg ho]) (fun t => by unfold St.get St.wrote; simp only [xT]; cases look st.tm t <;> simp [xi, os]) rfl
     (fun o ho => by
       obtain ⟨k, y, hm, g2, g3⟩ := hnewo o ho
       obtain ⟨x, y', g4, g5, g6⟩ := hnew k o hm
       rw [g2] at g5; cases g5
       exact ⟨x, y, g4, by rw [hlook, if_pos ho]; exact g3, g6⟩)
     ⟨rfl, rfl, rfl⟩ gout hk.size
     (fun o x k ho hx hk' => heap k ((h.obs o x hx).lt k hk') (fun ⟨f, hm⟩ => by
       obtain ⟨o', x', ho', hx', hF⟩ := mayos k f hm
       have := h.dis o o' x _ k hx hx' hk' hF
       subst this; exact ho ho'))
     (fun k hk' => heap k (h.sS k hk') (fun ⟨f, hm⟩ => by
       obtain ⟨o', x', ho', hx', hF⟩ := mayos k f hm
       exact h.nS o' _ k hx' hF hk'))
     (World.keptBut_mono (fun p hp => by
       obtain ⟨b, f, e, hm⟩ := hp
       exact ⟨b, f, e, wr1 b f hm⟩) hk)
     (fun k hk' => hR.s0S k hk')
     (fun k hk' => ⟨hR.sS k hk', h.sZ k (hR.sZ k hk'), Or.inl (hR.sZ k hk')⟩)
     (fun o ho y hy => by
       rw [hlook, if_pos ho] at hy
       obtain ⟨k, y', hm, g2, g3⟩ := hnewo o ho
       rw [g3] at hy; cases hy
       obtain ⟨p1, p2, p3⟩ := hpn k o hm
       exact (hR.obs k _ g2).at (gh' := ghn) rfl p1.symm p2.symm p3.symm (gin k o hm))
     (fun o ho b hb => by
       obtain ⟨k, y, hm, g2, g3⟩ := hnewo o ho
       rw [gin k o hm] at hb
       rcases newB b (cF k o hm b hb).1 with hh | hh | hh
       · exact Or.inl hh
       · exact hh.elim
       · exact Or.inr (Or.inr hh))
     (fun o o' b ho ho' hb hb' => by
       obtain ⟨k, y, hm, g2, g3⟩ := hnewo o ho
       obtain ⟨k', y', hm', g2', g3'⟩ := hnewo o' ho'
       rw [gin k o hm] at hb
       rw [gin k' o' hm'] at hb'
       have := hR.dis k k' _ _ b g2 g2' hb hb'
       subst this
       have h1 := yb hMk hm
       have h2 := yb hMk hm'
       rw [h1] at h2; cases h2; rfl)
     (fun o b ho hb => by
       obtain ⟨k, y, hm, g2, g3⟩ := hnewo o ho
       rw [gin k o hm] at hb
       exact hR.nS k _ b g2 hb)
     (fun o b y ho hy hb hc => by
       obtain ⟨k, y', hm, g2, g3⟩ := hnewo o ho
       rw [hlook, if_pos ho, g3] at hy; cases hy
       rw [gin k o hm] at hb
       exact (cF k o hm b hb).2 _ g2 hc)
     (fun b hb => ⟨hR.xl b hb, hR.xS b hb, by
       rcases hR.xW b hb with hw | hw
       · exact Or.inl (Nat.le_trans h.size hw)
       · exact wrA b hw, by
       rcases hR.xW b hb with hw | hw
       · exact Or.inr (Or.inr hw)
       · obtain ⟨o, x, ho, _, hF, _⟩ := allmay b hw
         exact Or.inl ⟨o, ho, hF⟩⟩)
     (fun o b ho hb hX => by
       obtain ⟨k, y, hm, g2, g3⟩ := hnewo o ho
       rw [gin k o hm] at hb
       exact hR.xF k _ b g2 hX hb)
 have hres' : Res P w' ghn.S rs vs' G := hres
 cases d with
 | none => exact ⟨_, ghn, hK rs st' hpost, hin.less (fun k hk => hk.elim)⟩
 | some d =>
   obtain ⟨gh2, hr2, hn2, hl2, hv2, _, _⟩ := Yk d rs vs' G 0 hin hpin hres' (fun b hb => hb)
   refine ⟨_, gh2, hK rs st' hpost, ?_⟩
   simp only [Xk]
   refine (hr2.less (X' := No) (fun k hk => hk.elim)).set (by rw [hn2]; exact hd d rfl) ?_
   match rs, vs', hl2, hv2 with
   | [], [], _, hv2 => exact .tup rfl (fun i v hi => by simp [vsR] at hi)
   | [r], [v], _, hv2 => exact hv2 0 _ _ rfl rfl
   | r :: r2 :: rs, v :: v2 :: vs, hl2, hv2 =>
     refine .tup (by simp [<- hl2]) (fun i x hi => ?_)
     have hil := (List.getElem?_eq_some_iff.1 hi).1
     have hvi : (v :: v2 :: vs)[i]? = some (v :: v2 :: vs)[i] := List.getElem?_eq_getElem (by omega)
     have := hv2 i x _ hi hvi
     simpa [Array.getD_eq_getD_getElem?, hvi] using this
   | [], v :: vs, hl2, _ => simp [vsR] at hl2
   | r :: rs, [], hl2, _ => simp [vsR] at hl2
   | [r], v :: v2 :: vs, hl2, _ => simp [vsR] at hl2
   | r :: r2 :: rs, [v], hl2, _ => simp [vsR] at hl2
theorem Yp {f : FuncId} {ts : (Nat -> Value) -> List V} {iob N : List (Nat × Ob)} {R : List RV} (hs : SoundAtN P f ts iob (fun rs st => rs = R /\ yh st.ob N)) (hpin : ∀ o, xj o = false -> C.pin o = none) (M Mr Mb : List (Nat × Nat)) {vs : List V} {d : Option Nat}
   (hMM : M = Mr ++ Mb /\ Xc (M.map (·.1)) = true /\ Xc (M.map (·.2)) = true /\ iob.map (·.1) = M.map (·.1)) (hl : ∀ uf, Yd ⟨Mr, uf, pvOf C, [], iob⟩ Mb vs (ts uf))
   (h : ioIs st iob M /\ Xp st Mr /\ XZ iob N M /\ ev (b := ⟨K⟩) (Xk (st.wrote M N) d R)) : Xm (b := ⟨K⟩) P C st f vs d := by
 refine znq hs (pin3 hpin) M Mr Mb hMM.1 h.1 h.2.1 (YK hMM.2.1) (YK hMM.2.2.1) hMM.2.2.2 hl (fun rs st' hr => ?_) (fun rs st' hr => ?_)
 · exact (xX (Zq hr.2) M h.2.2.1).2
 · have e : st.wrote M st'.ob = st.wrote M N := by unfold St.wrote; rw [(xX (Zq hr.2) M h.2.2.1).1]
   rw [hr.1, e]; exact h.2.2.2
end
attribute [go_sem] St.own
set_option maxHeartbeats 8000000
theorem zdq {α : Type} {f g : α -> Nat} : ∀ l : List α, (∀ x ∈ l, f x <= g x) -> sumN f l <= sumN g l
 | [], _ => by simp [sumN]
 | a :: r, h => by
   have h1 := zdq r (fun x hx => h x (List.mem_cons_of_mem _ hx))
   have h2 := h a (List.mem_cons_self ..)
   simp only [sumN, List.map_cons, List.sum_cons] at h1 |-
   omega
theorem zbs {α : Type} (f g : α -> Nat) : ∀ l : List α, sumN (fun x => f x + g x) l = sumN f l + sumN g l
 | [] => by simp [sumN]
 | a :: r => by
   have h1 := zbs f g r
   simp only [sumN, List.map_cons, List.sum_cons] at h1 |-
   omega
theorem xG {α : Type} {f g : α -> Nat} (l : List α) (h : ∀ x ∈ l, f x = g x) : sumN f l = sumN g l := by
 unfold sumN
 rw [List.map_congr_left h]
theorem zbr {α : Type} (l : List α) : sumN (fun _ => 0) l = 0 := by
 induction l with
 | nil => rfl
 | cons a r ih => simp only [sumN, List.map_cons, List.sum_cons] at ih |-; omega
theorem ziQ (g : Nat -> Nat) (k : Nat) : ∀ n, k < n -> sumN (fun m => if m = k then g m else 0) (List.range n) = g k
 | 0, h => by omega
 | n + 1, h => by
   rw [List.range_succ, YI]
   by_cases e : k = n
   · subst e
     have : sumN (fun m => if m = k then g m else 0) (List.range k) = sumN (fun _ => 0) (List.range k) := xG _ (fun x hx => by
       have := List.mem_range.1 hx
       rw [if_neg (by omega)])
     rw [this, zbr]; simp [sumN]
   · rw [ziQ g k n (by omega)]
     have : ¬ n = k := fun h => e h.symm
     simp [sumN, this]
theorem zfu (g : Nat -> Nat) (n : Nat) : ∀ ks : List Int, (∀ k ∈ ks, 0 <= k /\ k.toNat < n) -> sumN (fun k => g k.toNat) ks = sumN (fun m : Nat => ks.count (m : Int) * g m) (List.range n)
 | [], _ => by simp only [List.count_nil, Nat.zero_mul]; rw [zbr]; rfl
 | a :: r, h => by
   obtain ⟨h0, h1⟩ := h a (List.mem_cons_self ..)
   have ih := zfu g n r (fun k hk => h k (List.mem_cons_of_mem _ hk))
   rw [zam, ih]
   have e : ∀ m ∈ List.range n, (a :: r).count (m : Int) * g m = (if m = a.toNat then g m else 0) + r.count (m : Int) * g m := fun m _ => by
     rw [List.count_cons]
     by_cases e : a = (m : Int)
     · have e2 : m = a.toNat := by omega
       have e3 : (a == (m : Int)) = true := by simpa using e
       rw [e3, if_pos e2, if_pos rfl, Nat.add_mul]; omega
     · have e2 : ¬ m = a.toNat := by omega
       have e3 : (a == (m : Int)) = false := by simpa using e
       rw [e3, if_neg e2]; simp
   rw [xG _ e, zbs, ziQ g a.toNat n h1]
theorem zhp (g : Nat -> Nat) (R : List Nat) : ∀ nodes : List NodeD, sumN (fun x => sumN (fun m : Nat => x.kids.count ((m : Nat) : Int) * g m) R) nodes = sumN (fun m : Nat => sumN (fun x => x.kids.count ((m : Nat) : Int)) nodes * g m) R
 | [] => by
   have : (fun m : Nat => sumN (fun x : NodeD => x.kids.count ((m : Nat) : Int)) [] * g m) = fun _ => 0 := by funext m; simp [sumN]
   rw [this, zbr]; rfl
 | a :: r => by
   rw [zam, zhp g R r, <- zbs]
   apply xG
   intro m _
   rw [zam, Nat.add_mul]
theorem zfF {nodes : List NodeD} (hD : Deep nodes) (h1 : ∀ m, m < nodes.length -> cntK nodes nodes.length m <= 1) (g : Nat -> Nat) : sumN (fun x => sumN (fun k => g k.toNat) x.kids) nodes <= sumN g (List.range nodes.length) := by
 have e : ∀ x ∈ nodes, sumN (fun k : Int => g k.toNat) x.kids = sumN (fun m => x.kids.count ((m : Nat) : Int) * g m) (List.range nodes.length) := fun x hx => by
   obtain ⟨i, hi, rfl⟩ := List.getElem_of_mem hx
   refine zfu g _ _ (fun k hk => ?_)
   obtain ⟨q0, q1, q2⟩ := hD.kid hi k hk
   exact ⟨q0, by omega⟩
 rw [xG _ e, zhp]
 apply zdq
 intro m hm
 have h2 := h1 m (List.mem_range.1 hm)
 unfold cntK at h2
 rw [List.take_length] at h2
 have := Nat.mul_le_mul_right (g m) h2
 omega
def szF (nodes : List NodeD) : Nat -> Int -> Nat
 | 0, _ => 0
 | d + 1, k => 3 + (nAt nodes k).kids.length + sumN (szF nodes d) (nAt nodes k).kids
def szB (nodes : List NodeD) (k : Int) : Nat := szF nodes (k.toNat + 1) k
theorem zkb {nodes : List NodeD} (hD : Deep nodes) : ∀ (d n : Nat), n < nodes.length -> n < d -> szF nodes d n = szB nodes n := by
 intro d
 induction d using Nat.strongRecOn with
 | ind d ih =>
 intro n hn hd
 obtain ⟨e, rfl⟩ : ∃ e, d = e + 1 := ⟨d - 1, by omega⟩
 unfold szB
 have e2 : ((n : Int).toNat + 1) = n + 1 := by omega
 rw [e2]
 unfold szF
 rw [zI hn]
 congr 1
 apply xG
 intro kid hk
 obtain ⟨q0, q1, q2⟩ := hD.kid hn kid hk
 obtain ⟨m, rfl⟩ : ∃ m : Nat, kid = m := ⟨kid.toNat, by omega⟩
 have h1 := ih e (by omega) m (by omega) (by omega)
 by_cases hne : n = e
 · subst hne; rfl
 · have h2 := ih n (by omega) m (by omega) (by omega)
   rw [h1, h2]
theorem XN {nodes : List NodeD} (hD : Deep nodes) {n : Nat} (hn : n < nodes.length) : szB nodes n = 3 + nodes[n].kids.length + sumN (szB nodes) nodes[n].kids := by
 have e2 : ((n : Int).toNat + 1) = n + 1 := by omega
 unfold szB
 rw [e2]
 conv => lhs; unfold szF
 rw [zI hn]
 congr 1
 apply xG
 intro kid hk
 obtain ⟨q0, q1, q2⟩ := hD.kid hn kid hk
 obtain ⟨m, rfl⟩ : ∃ m : Nat, kid = m := ⟨kid.toNat, by omega⟩
 exact zkb hD n m (by omega) (by omega)
theorem zft (nodes : List NodeD) (f : NodeD -> Nat) : sumN (fun m : Nat => f (nAt nodes (m : Int))) (List.range nodes.length) = sumN f nodes := by
 unfold sumN
 congr 1
 apply List.ext_getElem
 · simp
 · intro i h1 h2
   have hi : i < nodes.length := by simpa using h1
   simp only [List.getElem_map, List.getElem_range]
   rw [zI hi]
theorem zlS (g : Nat -> Nat) {n k : Nat} (h : k < n) : g k <= sumN g (List.range n) := by
 have h1 := ziQ g k n h
 have h2 := zdq (f := fun m => if m = k then g m else 0) (g := g) (List.range n) (fun x _ => by split <;> omega)
 omega
theorem zlQ {nodes : List NodeD} (hD : Deep nodes) (h1 : ∀ m, m < nodes.length -> cntK nodes nodes.length m <= 1) : ∀ d, sumN (fun m : Nat => szF nodes d (m : Int)) (List.range nodes.length) <= d * sumN (fun x => 3 + x.kids.length) nodes
 | 0 => by simp only [szF]; rw [zbr]; omega
 | d + 1 => by
   have ih := zlQ hD h1 d
   have e : (fun m : Nat => szF nodes (d + 1) (m : Int)) = (fun m : Nat => (fun x : NodeD => 3 + x.kids.length) (nAt nodes (m : Int)) + (fun x : NodeD => sumN (szF nodes d) x.kids) (nAt nodes (m : Int))) := by funext m; rfl
   rw [e, zbs, zft nodes (fun x => 3 + x.kids.length), zft nodes (fun x => sumN (szF nodes d) x.kids)]
   have h2 := zfF hD h1 (fun m => szF nodes d (m : Int))
   have h3 : sumN (fun x : NodeD => sumN (fun k : Int => szF nodes d ((k.toNat : Nat) : Int)) x.kids) nodes = sumN (fun x => sumN (szF nodes d) x.kids) nodes := by
     apply xG
     intro x hx
     obtain ⟨i, hi, rfl⟩ := List.getElem_of_mem hx
     apply xG
     intro k hk
     obtain ⟨q0, q1, q2⟩ := hD.kid hi k hk
     have : ((k.toNat : Nat) : Int) = k := by omega
     rw [this]
   rw [h3] at h2
   rw [Nat.add_mul]
   omega
theorem zli {nodes : List NodeD} (hD : Deep nodes) (h1 : ∀ m, m < nodes.length -> cntK nodes nodes.length m <= 1) : sumN (fun x => x.kids.length) nodes <= nodes.length := by
 have h2 := zfF hD h1 (fun _ => 1)
 have e1 : ∀ l : List Nat, sumN (fun _ => 1) l = l.length := fun l => by
   induction l with
   | nil => rfl
   | cons a r ih => rw [zam, ih, List.length_cons]; omega
 have e2 : ∀ l : List Int, sumN (fun _ => 1) l = l.length := fun l => by
   induction l with
   | nil => rfl
   | cons a r ih => rw [zam, ih, List.length_cons]; omega
 rw [e1, List.length_range] at h2
 rw [xG _ (fun x _ => e2 x.kids)] at h2
 exact h2
theorem zne {α : Type} (c : Nat) (l : List α) : sumN (fun _ => c) l = c * l.length := by
 induction l with
 | nil => rfl
 | cons a r ih => rw [zam, ih, List.length_cons, Nat.mul_add]; omega
theorem Xa {nodes : List NodeD} (hD : Deep nodes) (h1 : ∀ m, m < nodes.length -> cntK nodes nodes.length m <= 1) (hn : nodes.length <= 300) {k : Nat} (hk : k < nodes.length) : szB nodes k <= 360000 := by
 have h2 := zlQ hD h1 nodes.length
 rw [zbs, zne] at h2
 have h3 := zli hD h1
 have h4 := zlS (fun m : Nat => szF nodes nodes.length (m : Int)) hk
 have h5 := zkb hD nodes.length k hk hk
 simp only [h5] at h4
 have h6 : nodes.length * (3 * nodes.length + sumN (fun x => x.kids.length) nodes) <= 300 * (3 * 300 + 300) := Nat.mul_le_mul hn (by omega)
 omega
structure LowD where
 locs : List Int
 words : List InsD
def LowD.addW (s : LowD) (x : InsD) : LowD := ⟨s.locs, s.words ++ [x]⟩
def LowD.addL (s : LowD) (t : Int) : LowD := ⟨s.locs ++ [t], s.words⟩
def in0 : InsD := ⟨0, 0, 0, 0, 0, ⟨#[]⟩, []⟩
def InsD.numTo (x : InsD) (n : Int) : InsD := ⟨x.op, x.a, x.b, x.c, n, x.name, x.args⟩
def LowD.setN (s : LowD) (i : Nat) (n : Int) : LowD := ⟨s.locs, s.words.set i ((s.words.getD i in0).numTo n)⟩
def in3 (op a b : Int) : InsD := ⟨op, a, b, 0, 0, ⟨#[]⟩, []⟩
def kidP (V : Int -> LowD -> Int × LowD) (q : List Int × LowD) (k : Int) : List Int × LowD := (q.1 ++ [(V k q.2).1], (V k q.2).2)
def zgB (V : Int -> LowD -> Int × LowD) (l : List Int) (s : LowD) : List Int × LowD := l.foldl (kidP V) ([], s)
def opI (l : List VarD) (x : NodeD) (t to : Int) (a : List Int) : InsD :=
 if x.kind == 1 then ⟨1, to, 0, 0, x.num, ⟨#[]⟩, []⟩
 else if x.kind == 2 then ⟨if zfj t then 2 else 3, to, yg l x.name, 0, 0, ⟨#[]⟩, []⟩
 else if x.kind == 3 then ⟨4, to, yg l x.name, 0, 0, ⟨#[]⟩, []⟩
 else if x.kind == 4 then ⟨5, to, yg l x.name, 0, 0, ⟨#[]⟩, []⟩
 else if x.kind == 5 then ⟨6, to, yg l x.name, 0, 0, ⟨#[]⟩, []⟩
 else if x.kind == 6 then ⟨7, to, yg l x.name, 0, 0, ⟨#[]⟩, []⟩
 else if x.kind == 7 then ⟨8, to, 0, 0, 0, ⟨#[]⟩, []⟩
 else if x.kind == 8 then ⟨9, to, a.getD 0 0, 0, 0, ⟨#[]⟩, []⟩
 else ⟨x.kind + 1, to, a.getD 0 0, a.getD 1 0, 0, ⟨#[]⟩, []⟩
def valK (V : Int -> LowD -> Int × LowD) (l : List VarD) (t : Int) (x : NodeD) (s : LowD) : Int × LowD :=
 let q := zgB V x.kids s
 if x.kind == 12 then
   if t == 0 then (-1, q.2.addW ⟨13, -1, 0, 0, 0, x.name, q.1⟩)
   else ((q.2.locs.length : Int), (q.2.addL t).addW ⟨13, q.2.locs.length, 0, 0, 0, x.name, q.1⟩)
 else ((q.2.locs.length : Int), (q.2.addL t).addW (opI l x t q.2.locs.length q.1))
def valF (p : ProgramD) (l : List VarD) : Nat -> Int -> LowD -> Int × LowD
 | 0, _, s => (0, s)
 | d + 1, k, s => valK (valF p l d) l (ye p l k) (nAt p.nodes k) s
def lowV (p : ProgramD) (l : List VarD) (k : Int) (s : LowD) : Int × LowD := valF p l (k.toNat + 1) k s
theorem zei {V W : Int -> LowD -> Int × LowD} : ∀ (l : List Int) (q : List Int × LowD), (∀ k ∈ l, ∀ s, V k s = W k s) -> l.foldl (kidP V) q = l.foldl (kidP W) q
 | [], _, _ => rfl
 | a :: r, q, h => by
   have e : kidP V q a = kidP W q a := by unfold kidP; rw [h a (List.mem_cons_self ..)]
   rw [List.foldl_cons, List.foldl_cons, e, zei r _ (fun k hk => h k (List.mem_cons_of_mem _ hk))]
theorem zfn {V W : Int -> LowD -> Int × LowD} (l : List VarD) (t : Int) (x : NodeD) (s : LowD) (h : ∀ k ∈ x.kids, ∀ s, V k s = W k s) : valK V l t x s = valK W l t x s := by
 unfold valK zgB
 rw [zei x.kids _ h]
theorem zlG {p : ProgramD} (hD : Deep p.nodes) (l : List VarD) : ∀ (d n : Nat) (s : LowD), n < p.nodes.length -> n < d -> valF p l d n s = lowV p l n s := by
 intro d
 induction d using Nat.strongRecOn with
 | ind d ih =>
 intro n s hn hd
 obtain ⟨e, rfl⟩ : ∃ e, d = e + 1 := ⟨d - 1, by omega⟩
 unfold lowV
 have e2 : ((n : Int).toNat + 1) = n + 1 := by omega
 rw [e2]
 unfold valF
 rw [zI hn]
 apply zfn
 intro kid hk s2
 obtain ⟨q0, q1, q2⟩ := hD.kid hn kid hk
 obtain ⟨m, rfl⟩ : ∃ m : Nat, kid = m := ⟨kid.toNat, by omega⟩
 have h1 := ih e (by omega) m s2 (by omega) (by omega)
 by_cases hne : n = e
 · subst hne; rfl
 · have h2 := ih n (by omega) m s2 (by omega) (by omega)
   rw [h1, h2]
theorem zdY {p : ProgramD} (hD : Deep p.nodes) (l : List VarD) {n : Nat} (hn : n < p.nodes.length) (s : LowD) : lowV p l n s = valK (lowV p l) l (ye p l n) p.nodes[n] s := by
 have e2 : ((n : Int).toNat + 1) = n + 1 := by omega
 unfold lowV
 rw [e2]
 conv => lhs; unfold valF
 rw [zI hn]
 apply zfn
 intro kid hk s2
 obtain ⟨q0, q1, q2⟩ := hD.kid hn kid hk
 obtain ⟨m, rfl⟩ : ∃ m : Nat, kid = m := ⟨kid.toNat, by omega⟩
 exact zlG hD l n m s2 (by omega) (by omega)
def kidQ (V : Int -> LowD -> Int × LowD) (l : List Int) (i : Nat) (s : LowD) : List Int × LowD := (l.take i).foldl (kidP V) ([], s)
theorem XY (V : Int -> LowD -> Int × LowD) (l : List Int) {i : Nat} (h : i < l.length) (s : LowD) : kidQ V l (i + 1) s = kidP V (kidQ V l i s) l[i] := by
 unfold kidQ
 rw [List.take_succ_eq_append_getElem h, List.foldl_append]; rfl
theorem zda (V : Int -> LowD -> Int × LowD) (l : List Int) (s : LowD) : kidQ V l l.length s = zgB V l s := by unfold kidQ zgB; rw [List.take_length]
theorem zbH (V : Int -> LowD -> Int × LowD) (l : List Int) (s : LowD) : ∀ i, i <= l.length -> (kidQ V l i s).1.length = i
 | 0, _ => by simp [kidQ]
 | i + 1, h => by rw [XY V l (by omega)]; simp [kidP, zbH V l s i (by omega)]
def LowD.le (s s2 : LowD) (b : Nat) : Prop := s.locs.length <= s2.locs.length /\ s2.locs.length <= s.locs.length + b /\ s.words.length <= s2.words.length /\ s2.words.length <= s.words.length + b
theorem LowD.le.trans {s s2 s3 : LowD} {a b : Nat} (h : s.le s2 a) (h2 : s2.le s3 b) : s.le s3 (a + b) := by
 obtain ⟨p1, p2, p3, p4⟩ := h
 obtain ⟨q1, q2, q3, q4⟩ := h2
 exact ⟨by omega, by omega, by omega, by omega⟩
theorem LowD.le.mono {s s2 : LowD} {a b : Nat} (h : s.le s2 a) (h2 : a <= b) : s.le s2 b := ⟨h.1, by have := h.2.1; omega, h.2.2.1, by have := h.2.2.2; omega⟩
theorem LowD.le.refl (s : LowD) : s.le s 0 := ⟨by omega, by omega, by omega, by omega⟩
theorem YW (s : LowD) (x : InsD) : s.le (s.addW x) 1 := by unfold LowD.le LowD.addW; simp
theorem zjn (s : LowD) (i : Nat) (n : Int) : s.le (s.setN i n) 0 := by unfold LowD.le LowD.setN; simp
theorem zkp (s : LowD) (t : Int) (x : InsD) : s.le ((s.addL t).addW x) 1 := by unfold LowD.le LowD.addL LowD.addW; simp
theorem zgC {V : Int -> LowD -> Int × LowD} {z : Int -> Nat} (l : List Int) (h : ∀ k ∈ l, ∀ s : LowD, s.le (V k s).2 (z k)) (s : LowD) : ∀ i, i <= l.length -> s.le (kidQ V l i s).2 (sumN z (l.take i))
 | 0, _ => by simp only [kidQ, List.take_zero, List.foldl_nil, sumN, List.map_nil, List.sum_nil]; exact .refl s
 | i + 1, hi => by
   rw [XY V l (by omega), List.take_succ_eq_append_getElem (by omega), YI]
   have h1 := zgC l h s i (by omega)
   have h2 := h l[i] (List.getElem_mem _) (kidQ V l i s).2
   have : sumN z [l[i]] = z l[i] := by simp [sumN]
   rw [this]
   exact h1.trans h2
theorem zaZ {p : ProgramD} (hD : Deep p.nodes) (l : List VarD) (n : Nat) : n < p.nodes.length -> ∀ s : LowD, s.le (lowV p l n s).2 (szB p.nodes n) := by
 induction n using Nat.strongRecOn with
 | ind n ih =>
 intro hn s
 have hs := XN hD hn
 rw [zdY hD l hn]
 have h1 := zgC (V := lowV p l) (z := szB p.nodes) p.nodes[n].kids (fun k hk s2 => by
   obtain ⟨q0, q1, q2⟩ := hD.kid hn k hk
   obtain ⟨m, rfl⟩ : ∃ m : Nat, k = m := ⟨k.toNat, by omega⟩
   exact ih m (by omega) (by omega) s2) s p.nodes[n].kids.length (by omega)
 rw [zda, List.take_length] at h1
 unfold valK
 generalize zgB (lowV p l) p.nodes[n].kids s = q at h1 |-
 simp only
 split
 · split
   · exact (h1.trans (YW _ _)).mono (by omega)
   · exact (h1.trans (zkp _ _ _)).mono (by omega)
 · exact (h1.trans (zkp _ _ _)).mono (by omega)
theorem zmB {p : ProgramD} (hD : Deep p.nodes) (l : List VarD) (n : Nat) (hn : n < p.nodes.length) (s : LowD) : (lowV p l n s).1 = -1 \/ (0 <= (lowV p l n s).1 /\ (lowV p l n s).1 < ((lowV p l n s).2.locs.length : Int)) := by
 rw [zdY hD l hn]
 unfold valK
 simp only
 split
 · split
   · exact Or.inl rfl
   · right; simp [LowD.addW, LowD.addL]; omega
 · right; simp [LowD.addW, LowD.addL]; omega
def zjG (p : ProgramD) (l : List VarD) (s : LowD) (k : Int) : LowD := if (nAt p.nodes k).kind == 13 && (vAt l (yg l (nAt p.nodes k).name)).ty == 2 then s.addW (in3 17 (yg l (nAt p.nodes k).name) 0) else s
def zbg (p : ProgramD) (l : List VarD) (kids : List Int) : Nat -> LowD -> LowD
 | 0, s => s
 | i + 1, s => zbg p l kids i (zjG p l s (kids.getD i 0))
def XI (p : ProgramD) (l : List VarD) (kids : List Int) (s : LowD) : LowD := zbg p l kids kids.length s
def blkS (S : Int -> LowD -> LowD) (kids : List Int) (s : LowD) : LowD := kids.foldl (fun s k => S k s) s
def doB (q : Int × LowD) : Bool := decide (0 <= q.1) && q.2.locs.getD q.1.toNat 0 == 2
def ifA (q : Int × LowD) : LowD := q.2.addW (in3 19 q.1 0)
def ifB (q : Int × LowD) (s : LowD) : LowD := (s.addW (in3 18 0 0)).setN q.2.words.length (s.words.length + 1)
def ifC (i : Nat) (s : LowD) : LowD := s.setN i s.words.length
def whB (top : Nat) (q : Int × LowD) (s : LowD) : LowD := (s.addW ⟨18, 0, 0, 0, top, ⟨#[]⟩, []⟩).setN q.2.words.length (s.words.length + 1)
def stpK (S : Int -> LowD -> LowD) (p : ProgramD) (l : List VarD) (x : NodeD) (s : LowD) : LowD :=
 let q := lowV p l (x.kids.getD 0 0) s
 if x.kind == 13 || x.kind == 14 then q.2.addW (in3 14 (yg l x.name) q.1)
 else if x.kind == 15 then q.2.addW (in3 15 (yg l x.name) q.1)
 else if x.kind == 18 then q.2.addW (in3 16 q.1 0)
 else if x.kind == 19 then (if doB q then q.2.addW (in3 17 q.1 0) else q.2)
 else if x.kind == 16 then ifC (S (x.kids.getD 1 0) (ifA q)).words.length (S (x.kids.getD 2 0) (ifB q (S (x.kids.getD 1 0) (ifA q))))
 else if x.kind == 17 then whB s.words.length q (S (x.kids.getD 1 0) (ifA q))
 else q.2
def lowF (p : ProgramD) (l : List VarD) : Nat -> Int -> LowD -> LowD
 | 0, _, s => s
 | d + 1, k, s => if (nAt p.nodes k).kind == 20 then XI p l (nAt p.nodes k).kids (blkS (lowF p l d) (nAt p.nodes k).kids s) else stpK (lowF p l d) p l (nAt p.nodes k) s
def lowS (p : ProgramD) (l : List VarD) (k : Int) (s : LowD) : LowD := lowF p l (k.toNat + 1) k s
end Go.Proofs.YtjjigphfjclofaaGreatDoor.AW
