/- What the statements of this set lean on, part 8. No condition beyond those named. -/
import Derived.Test.YtjjigphfjclofaaGreatDoorLw7
namespace Go.Proofs.YtjjigphfjclofaaGreatDoor.AW
open Go.RowKit
open Nat (reduceAdd reduceMul)
set_option maxHeartbeats 8000000
set_option maxRecDepth 100000
set_option linter.unusedSimpArgs false
set_option linter.unusedVariables false
structure PkS where
 to : List NodeD
 bad : Bool
def runB (V : Int -> PkS -> Int × PkS) : List Int -> PkS -> List Int × PkS
 | [], s => ([], s)
 | k :: r, s => if s.bad then ([], s) else ((V k s).1 :: (runB V r (V k s).2).1, (runB V r (V k s).2).2)
def zas (x : NodeD) (q : List Int × PkS) : Int × PkS := (q.2.to.length, ⟨q.2.to ++ [⟨x.kind, x.num, x.name, q.1⟩], q.2.bad⟩)
def yQ (s : PkS) : Int × PkS := (-1, ⟨s.to, true⟩)
def pkI (N : List NodeD) : Nat -> Int -> PkS -> Int × PkS
 | 0, _, s => yQ s
 | d + 1, k, s => if s.bad || (!inI k 0 (N.length - 1) || decide (300 <= s.to.length)) then yQ s else
   if (runB (pkI N d) (nAt N k).kids s).2.bad then (-1, (runB (pkI N d) (nAt N k).kids s).2) else
   if decide (300 <= (runB (pkI N d) (nAt N k).kids s).2.to.length) then yQ (runB (pkI N d) (nAt N k).kids s).2 else zas (nAt N k) (runB (pkI N d) (nAt N k).kids s)
def pkR (N : List NodeD) : Nat -> Int -> PkS -> Int × PkS
 | 0, _, s => yQ s
 | d + 1, k, s => if s.bad || (!inI k 0 (N.length - 1) || decide (300 < s.to.length)) then yQ s else zas (nAt N k) (runB (pkR N d) (nAt N k).kids s)
theorem YM (V : Int -> PkS -> Int × PkS) (l : List Int) {s : PkS} (h : s.bad = true) : runB V l s = ([], s) := by
 cases l with
 | nil => rfl
 | cons k r => unfold runB; rw [if_pos h]
theorem zdg (V : Int -> PkS -> Int × PkS) : ∀ (l : List Int) (s : PkS), (runB V l s).1.length <= l.length
 | [], s => by simp [runB]
 | k :: r, s => by
   unfold runB
   split
   · simp
   · simp only [List.length_cons]
     have := zdg V r (V k s).2
     omega
theorem zdf {V : Int -> PkS -> Int × PkS} {m : Nat} (h : ∀ k s, s.to.length <= m -> (V k s).2.to.length <= m) : ∀ (l : List Int) (s : PkS), s.to.length <= m -> (runB V l s).2.to.length <= m
 | [], s, hs => hs
 | k :: r, s, hs => by
   unfold runB
   split
   · exact hs
   · exact zdf h r _ (h k s hs)
theorem XO (N : List NodeD) : ∀ (d : Nat) (k : Int) (s : PkS), s.to.length <= 300 -> (pkI N d k s).2.to.length <= 300
 | 0, k, s, hs => hs
 | d + 1, k, s, hs => by
   have hr := zdf (V := pkI N d) (m := 300) (fun k s h => XO N d k s h) (nAt N k).kids s hs
   unfold pkI
   split
   · exact hs
   split
   · exact hr
   split
   · exact hr
   · rename_i h3
     simp only [decide_eq_true_eq] at h3
     simp only [zas, List.length_append, List.length_singleton]
     omega
theorem zgV {V : Int -> PkS -> Int × PkS} {m : Nat} (h1 : ∀ k s, s.to.length <= 300 -> (V k s).2.to.length <= m) (h2 : ∀ k s, 300 < s.to.length -> (V k s).2.to = s.to /\ (V k s).2.bad = true) (hm : 300 <= m) : ∀ (l : List Int) (s : PkS), s.to.length <= m -> (runB V l s).2.to.length <= m
 | [], s, hs => hs
 | k :: r, s, hs => by
   unfold runB
   split
   · exact hs
   · by_cases h : s.to.length <= 300
     · exact zgV h1 h2 hm r _ (h1 k s h)
     · obtain ⟨g1, g2⟩ := h2 k s (by omega)
       rw [YM V r g2]
       show (V k s).2.to.length <= m
       rw [g1]; exact hs
theorem zjz (N : List NodeD) (d : Nat) (k : Int) (s : PkS) (h : 300 < s.to.length) : (pkR N d k s).2.to = s.to /\ (pkR N d k s).2.bad = true := by
 cases d with
 | zero => exact ⟨rfl, rfl⟩
 | succ d =>
   unfold pkR
   rw [if_pos (by simp [h])]
   exact ⟨rfl, rfl⟩
theorem zjA (N : List NodeD) : ∀ (d : Nat) (k : Int) (s : PkS), s.to.length <= 300 -> (pkR N d k s).2.to.length <= 300 + d
 | 0, k, s, hs => hs
 | d + 1, k, s, hs => by
   unfold pkR
   split
   · show s.to.length <= _; omega
   · have hr := zgV (V := pkR N d) (m := 300 + d) (fun k s h => zjA N d k s h) (fun k s h => zjz N d k s h) (by omega) (nAt N k).kids s (by omega)
     simp only [zas, List.length_append, List.length_singleton]
     omega
theorem zlU (N : List NodeD) (d : Nat) (k : Int) (s : PkS) (m : Nat) (hm : 300 + d <= m) (hs : s.to.length <= m) : (pkR N d k s).2.to.length <= m := by
 by_cases h : s.to.length <= 300
 · have := zjA N d k s h; omega
 · obtain ⟨g1, _⟩ := zjz N d k s (by omega)
   rw [g1]; exact hs
theorem zdh {V : Int -> PkS -> Int × PkS} (h : ∀ k s, s.to.length <= (V k s).2.to.length) : ∀ (l : List Int) (s : PkS), s.to.length <= (runB V l s).2.to.length
 | [], s => Nat.le_refl _
 | k :: r, s => by
   unfold runB
   split
   · exact Nat.le_refl _
   · exact Nat.le_trans (h k s) (zdh h r _)
theorem zjB (N : List NodeD) : ∀ (d : Nat) (k : Int) (s : PkS), s.to.length <= (pkR N d k s).2.to.length
 | 0, k, s => Nat.le_refl _
 | d + 1, k, s => by
   unfold pkR
   split
   · exact Nat.le_refl _
   · have := zdh (V := pkR N d) (fun k s => zjB N d k s) (nAt N k).kids s
     simp only [zas, List.length_append, List.length_singleton]
     omega
def pkRel (s t : PkS) : Prop := (s.bad = false /\ t = s /\ s.to.length <= 300) \/ (s.bad = true /\ (t.bad = true \/ 300 < t.to.length))
theorem pkRel.stop {s t : PkS} : pkRel (yQ s).2 (yQ t).2 := Or.inr ⟨rfl, Or.inl rfl⟩
theorem zjv {V W : Int -> PkS -> Int × PkS} (h : ∀ k s, s.bad = false -> s.to.length <= 300 -> pkRel (V k s).2 (W k s).2 /\ ((V k s).2.bad = false -> (V k s).1 = (W k s).1)) (hW : ∀ k t, (t.bad = true \/ 300 < t.to.length) -> (W k t).2.bad = true) :
   ∀ (l : List Int) (s t : PkS), pkRel s t -> pkRel (runB V l s).2 (runB W l t).2 /\ ((runB V l s).2.bad = false -> (runB V l s).1 = (runB W l t).1)
 | [], s, t, hr => ⟨hr, fun _ => rfl⟩
 | k :: r, s, t, hr => by
   rcases hr with ⟨h1, rfl, h3⟩ | ⟨h1, h2⟩
   · obtain ⟨g1, g2⟩ := h k t h1 h3
     obtain ⟨g3, g4⟩ := zjv h hW r _ _ g1
     unfold runB
     rw [if_neg (by simp [h1]), if_neg (by simp [h1])]
     refine ⟨g3, fun hb => ?_⟩
     have hb0 : (V k t).2.bad = false := by
       cases hq : (V k t).2.bad with
       | false => rfl
       | true => rw [YM V r hq] at hb; simp only at hb; rw [hq] at hb; exact hb
     simp only
     rw [g2 hb0, g4 hb]
   · rw [YM V _ h1]
     refine ⟨Or.inr ⟨h1, ?_⟩, fun hb => by simp only at hb; rw [h1] at hb; cases hb⟩
     cases ht : t.bad with
     | true => rw [YM W _ ht]; exact Or.inl ht
     | false =>
       unfold runB
       rw [if_neg (by simp [ht]), YM W r (hW k t h2)]
       exact Or.inl (hW k t h2)
theorem zjy (N : List NodeD) (d : Nat) (k : Int) (t : PkS) (h : t.bad = true \/ 300 < t.to.length) : (pkR N d k t).2.bad = true := by
 cases d with
 | zero => rfl
 | succ d =>
   unfold pkR
   rw [if_pos (by rcases h with h | h <;> simp [h])]
   rfl
theorem zoo (N : List NodeD) : ∀ (d : Nat) (k : Int) (s : PkS), s.bad = false -> s.to.length <= 300 -> pkRel (pkI N d k s).2 (pkR N d k s).2 /\ ((pkI N d k s).2.bad = false -> (pkI N d k s).1 = (pkR N d k s).1)
 | 0, k, s, h1, h2 => ⟨Or.inr ⟨rfl, Or.inl rfl⟩, fun hb => by cases hb⟩
 | d + 1, k, s, h1, h2 => by
   have hrun := zjv (V := pkI N d) (W := pkR N d) (fun k s g1 g2 => zoo N d k s g1 g2) (fun k t ht => zjy N d k t ht) (nAt N k).kids s s (Or.inl ⟨h1, rfl, h2⟩)
   have hmost := zdf (V := pkI N d) (m := 300) (fun k s h => XO N d k s h) (nAt N k).kids s h2
   have hgrow := zdh (V := pkR N d) (fun k s => zjB N d k s) (nAt N k).kids s
   unfold pkI pkR
   generalize runB (pkI N d) (nAt N k).kids s = q at hrun hmost
   generalize runB (pkR N d) (nAt N k).kids s = z at hrun hgrow
   obtain ⟨hr, hf⟩ := hrun
   cases hi : inI k 0 (N.length - 1) with
   | false =>
     simp only [Bool.not_false, Bool.true_or, Bool.or_true, if_true]
     exact ⟨Or.inr ⟨rfl, Or.inl rfl⟩, fun hb => by cases hb⟩
   | true =>
     simp only [h1, Bool.not_true, Bool.false_or, decide_eq_true_eq]
     have h4 : ¬ 300 < s.to.length := by omega
     rw [if_neg h4]
     by_cases h300 : 300 <= s.to.length
     · rw [if_pos h300]
       refine ⟨Or.inr ⟨rfl, Or.inr ?_⟩, fun hb => by cases hb⟩
       simp only [zas, List.length_append, List.length_singleton]
       omega
     · rw [if_neg h300]
       rcases hr with ⟨e1, e2, e3⟩ | ⟨e1, e2⟩
       · have e4 : ¬ q.2.bad = true := by simp [e1]
         rw [if_neg e4]
         by_cases hq : 300 <= q.2.to.length
         · rw [if_pos hq]
           refine ⟨Or.inr ⟨rfl, Or.inr ?_⟩, fun hb => by cases hb⟩
           simp only [zas, List.length_append, List.length_singleton, e2]
           omega
         · rw [if_neg hq]
           have ez : z = q := Prod.ext (hf e1).symm e2
           subst ez
           refine ⟨Or.inl ⟨e1, rfl, ?_⟩, fun _ => rfl⟩
           simp only [zas, List.length_append, List.length_singleton]
           omega
       · rw [if_pos e1]
         refine ⟨Or.inr ⟨e1, ?_⟩, fun hb => by simp only at hb; rw [e1] at hb; cases hb⟩
         rcases e2 with e2 | e2
         · exact Or.inl e2
         · refine Or.inr ?_
           simp only [zas, List.length_append, List.length_singleton]
           omega
def pkFn (V : Int -> PkS -> Int × PkS) (f : FnD) (s : PkS) : FnD × PkS :=
 if decide (0 <= f.ret) then (⟨f.name, f.params, f.res, (V f.body s).1, (V f.ret (V f.body s).2).1⟩, (V f.ret (V f.body s).2).2) else (⟨f.name, f.params, f.res, (V f.body s).1, f.ret⟩, (V f.body s).2)
def xX (V : Int -> PkS -> Int × PkS) : List FnD -> PkS -> List FnD × PkS
 | [], s => ([], s)
 | f :: r, s => ((pkFn V f s).1 :: (xX V r (pkFn V f s).2).1, (xX V r (pkFn V f s).2).2)
def pk0 : PkS := ⟨[], false⟩
def Xu (p : ProgramD) : List FnD × PkS := xX (pkI p.nodes 10) p.fns pk0
def zkH (p : ProgramD) : List FnD × PkS := xX (pkR p.nodes 10) p.fns pk0
def XZ (p : ProgramD) : Bool := !(Xu p).2.bad
def Ye (p : ProgramD) : ProgramD := if XZ p then ⟨(Xu p).2.to, (Xu p).1⟩ else ⟨[], []⟩
theorem ziu (N : List NodeD) (d : Nat) (k : Int) (s : PkS) (h : s.bad = true) : pkI N d k s = (-1, s) := by
 have e : yQ s = (-1, s) := by unfold yQ; cases s; simp only at h; subst h; rfl
 cases d with
 | zero => exact e
 | succ d =>
   unfold pkI
   rw [if_pos (by simp [h])]
   exact e
theorem znp (N : List NodeD) (d : Nat) (f : FnD) (s t : PkS) (hr : pkRel s t) : pkRel (pkFn (pkI N d) f s).2 (pkFn (pkR N d) f t).2 /\ ((pkFn (pkI N d) f s).2.bad = false -> (pkFn (pkI N d) f s).1 = (pkFn (pkR N d) f t).1) := by
 have one : ∀ k s t, pkRel s t -> pkRel (pkI N d k s).2 (pkR N d k t).2 /\ ((pkI N d k s).2.bad = false -> s.bad = false /\ (pkI N d k s).1 = (pkR N d k t).1) := fun k s t hr => by
   rcases hr with ⟨h1, rfl, h3⟩ | ⟨h1, h2⟩
   · obtain ⟨g1, g2⟩ := zoo N d k t h1 h3
     exact ⟨g1, fun hb => ⟨h1, g2 hb⟩⟩
   · rw [ziu N d k s h1]
     exact ⟨Or.inr ⟨h1, Or.inl (zjy N d k t h2)⟩, fun hb => by simp only at hb; rw [h1] at hb; cases hb⟩
 obtain ⟨g1, g2⟩ := one f.body s t hr
 obtain ⟨g3, g4⟩ := one f.ret _ _ g1
 unfold pkFn
 split
 · refine ⟨g3, fun hb => ?_⟩
   obtain ⟨e1, e2⟩ := g4 hb
   simp only
   rw [(g2 e1).2, e2]
 · refine ⟨g1, fun hb => ?_⟩
   simp only
   rw [(g2 hb).2]
theorem zhd (N : List NodeD) (d : Nat) : ∀ (l : List FnD) (s t : PkS), pkRel s t -> pkRel (xX (pkI N d) l s).2 (xX (pkR N d) l t).2 /\ ((xX (pkI N d) l s).2.bad = false -> s.bad = false /\ (xX (pkI N d) l s).1 = (xX (pkR N d) l t).1)
 | [], s, t, hr => ⟨hr, fun hb => ⟨hb, rfl⟩⟩
 | f :: r, s, t, hr => by
   obtain ⟨g1, g2⟩ := znp N d f s t hr
   obtain ⟨g3, g4⟩ := zhd N d r _ _ g1
   unfold xX
   refine ⟨g3, fun hb => ?_⟩
   obtain ⟨e1, e2⟩ := g4 hb
   refine ⟨?_, by simp only; rw [g2 e1, e2]⟩
   cases hs : s.bad with
   | false => rfl
   | true =>
     exfalso
     have : (pkFn (pkI N d) f s).2.bad = true := by
       unfold pkFn
       rw [ziu N d _ s hs]
       simp only
       rw [ziu N d _ s hs]
       split <;> exact hs
     rw [this] at e1; cases e1
theorem zkG (p : ProgramD) : ((!((zkH p).2.bad || decide (300 < (zkH p).2.to.length))) = XZ p) /\ (XZ p = true -> zkH p = Xu p) := by
 obtain ⟨h1, h2⟩ := zhd p.nodes 10 p.fns pk0 pk0 (Or.inl ⟨rfl, rfl, by simp [pk0]⟩)
 unfold XZ Xu zkH
 generalize xX (pkI p.nodes 10) p.fns pk0 = q at h1 h2
 generalize xX (pkR p.nodes 10) p.fns pk0 = z at h1 h2
 rcases h1 with ⟨e1, e2, e3⟩ | ⟨e1, e2⟩
 · rw [e2, e1]
   refine ⟨by simp; omega, fun _ => Prod.ext (h2 e1).2.symm e2⟩
 · rw [e1]
   refine ⟨?_, fun h => by cases h⟩
   rcases e2 with e2 | e2 <;> simp [e2]
def simN (A B : List NodeD) : Nat -> Int -> Int -> Prop
 | 0, _, _ => True
 | d + 1, a, b => inI a 0 (A.length - 1) = inI b 0 (B.length - 1) /\ (inI a 0 (A.length - 1) = true -> (nAt A a).kind = (nAt B b).kind /\ (nAt A a).num = (nAt B b).num /\ (nAt A a).name = (nAt B b).name /\ (nAt A a).kids.length = (nAt B b).kids.length /\ ∀ (i : Nat) (x y : Int), (nAt A a).kids[i]? = some x -> (nAt B b).kids[i]? = some y -> simN A B d x y)
theorem zju {V W : Int -> PkS -> Int × PkS} {R : Int -> Int -> Prop} (h : ∀ x y s, R x y -> V x s = W y s) : ∀ (l m : List Int) (s : PkS), l.length = m.length -> (∀ (i : Nat) (x y : Int), l[i]? = some x -> m[i]? = some y -> R x y) -> runB V l s = runB W m s
 | [], [], s, _, _ => rfl
 | [], _ :: _, s, hl, _ => by simp at hl
 | _ :: _, [], s, hl, _ => by simp at hl
 | x :: l, y :: m, s, hl, hr => by
   have h0 := h x y s (hr 0 x y rfl rfl)
   have h1 := zju h l m (V x s).2 (by simpa using hl) (fun i x y hx hy => hr (i + 1) x y (by simpa using hx) (by simpa using hy))
   unfold runB
   rw [<- h0, h1]
theorem zlT (A B : List NodeD) : ∀ (d : Nat) (a b : Int) (s : PkS), simN A B d a b -> pkI A d a s = pkI B d b s
 | 0, _, _, _, _ => rfl
 | d + 1, a, b, s, h => by
   obtain ⟨h1, h2⟩ := h
   unfold pkI
   rw [<- h1]
   cases hi : inI a 0 (A.length - 1) with
   | false => simp
   | true =>
     obtain ⟨g1, g2, g3, g4, g5⟩ := h2 hi
     rw [zju (V := pkI A d) (W := pkI B d) (R := simN A B d) (fun x y s hr => zlT A B d x y s hr) (nAt A a).kids (nAt B b).kids s g4 g5]
     unfold zas
     rw [g1, g2, g3]
theorem zhj {A B : List NodeD} (d : Nat) : ∀ {F G : List FnD} (s : PkS), F.length = G.length -> (∀ (i : Nat) (f g : FnD), F[i]? = some f -> G[i]? = some g -> f.name = g.name /\ f.params = g.params /\ f.res = g.res /\ simN A B d f.body g.body /\ ((0 <= f.ret ↔ 0 <= g.ret) /\ (0 <= f.ret -> simN A B d f.ret g.ret) /\ (¬ 0 <= f.ret -> f.ret = g.ret))) -> xX (pkI A d) F s = xX (pkI B d) G s
 | [], [], s, _, _ => rfl
 | [], _ :: _, s, hl, _ => by simp at hl
 | _ :: _, [], s, hl, _ => by simp at hl
 | f :: F, g :: G, s, hl, h => by
   obtain ⟨h1, h2, h3, h4, h5, h6, h7⟩ := h 0 f g rfl rfl
   have e : pkFn (pkI A d) f s = pkFn (pkI B d) g s := by
     unfold pkFn
     rw [zlT A B d _ _ _ h4, h1, h2, h3]
     by_cases h0 : 0 <= f.ret
     · rw [if_pos (by simpa using h0), if_pos (by simpa using h5.1 h0), zlT A B d _ _ _ (h6 h0)]
     · rw [if_neg (by simpa using h0), if_neg (by simpa using fun hg => h0 (h5.2 hg)), h7 h0]
   unfold xX
   rw [e, zhj d _ (by simpa using hl) (fun i f g hf hg => h (i + 1) f g (by simpa using hf) (by simpa using hg))]
theorem znr {p q : ProgramD} (hl : p.fns.length = q.fns.length) (h : ∀ (i : Nat) (f g : FnD), p.fns[i]? = some f -> q.fns[i]? = some g -> f.name = g.name /\ f.params = g.params /\ f.res = g.res /\ simN p.nodes q.nodes 10 f.body g.body /\ ((0 <= f.ret ↔ 0 <= g.ret) /\ (0 <= f.ret -> simN p.nodes q.nodes 10 f.ret g.ret) /\ (¬ 0 <= f.ret -> f.ret = g.ret))) : Xu p = Xu q := zhj 10 pk0 hl h
theorem zlD {A B : List NodeD} {R : Int -> Int -> Prop} (h : ∀ a b, R a b -> inI a 0 (A.length - 1) = inI b 0 (B.length - 1) /\ (inI a 0 (A.length - 1) = true -> (nAt A a).kind = (nAt B b).kind /\ (nAt A a).num = (nAt B b).num /\ (nAt A a).name = (nAt B b).name /\ (nAt A a).kids.length = (nAt B b).kids.length /\ ∀ (i : Nat) (x y : Int), (nAt A a).kids[i]? = some x -> (nAt B b).kids[i]? = some y -> R x y)) : ∀ (d : Nat) (a b : Int), R a b -> simN A B d a b
 | 0, _, _, _ => trivial
 | d + 1, a, b, hr => by
   obtain ⟨h1, h2⟩ := h a b hr
   refine ⟨h1, fun hi => ?_⟩
   obtain ⟨g1, g2, g3, g4, g5⟩ := h2 hi
   exact ⟨g1, g2, g3, g4, fun i x y hx hy => zlD h d x y (g5 i x y hx hy)⟩
noncomputable def zaM (p : ProgramD) (fn : Int) : Bool := yi p && (inI fn 0 (p.fns.length - 1) && YZ p fn)
noncomputable def zeS (p : ProgramD) (fn : Int) : List VarD := if zaM p fn then zL p fn else []
theorem zlr (p : ProgramD) (fn : Int) (hf : p.fns.length <= 1048576) (hn : p.nodes.length <= 1048576) (hk : ∀ x ∈ p.nodes, x.kids.length <= 1048576) (hpl : ∀ f ∈ p.fns, f.params.length <= 1048576) :
   zu Tryz.prog 117 [.ro (zb p), .ro (.sc (.int .i64 fn))] (fun rs st => rs = [(false, [.row false 96 (rows (varC false) (zeS p fn))]), (false, [cB (zaM p fn)])]) := by
 have e0 : rows (varC false) ([] : List VarD) = [] := rfl
 have w1 : IntKind.i64.wrap ((p.fns.length : Int) - 1) = (p.fns.length : Int) - 1 := w64 (by omega) (by omega)
 have hnr := Zj p hf hn hk hpl
 unfold zeS zaM
 cases hR : yi p with
 | true =>
   cases h0 : inI fn 0 (p.fns.length - 1) with
   | true =>
     have hr := zx h0
     obtain ⟨f, rfl⟩ : ∃ f : Nat, fn = f := ⟨fn.toNat, by omega⟩
     have := zcc p hR f (by omega) hf hn hk hpl
     cases hB : YZ p f with
     | true => rw [hB] at this; simpa using this
     | false => rw [hB] at this; simpa [e0] using this
   | false =>
     rw [hR] at hnr
     simp only [zb] at hnr
     refine zm (fn := Tryz.f117) (c := Tryz.f117.body.getD .skip) (res := [.tm 4, .tm 5]) (n := 35) zf (by kernel_rfl) (by rfl) (by kernel_rfl) (by rfl) (by rfl) (by simp [zp]) (fun uf ub C hpin hpin2 hfull => ?_)
     simp only [Tryz.f117, Option.getD_some]
     refine Tri.step zf ?_
     simp +decide only [zb, za, hpin, go_sem, reduceAdd, reduceMul]
     refine Tri.ent ?_ (Ent.frb hfull 2)
     refine Tri.step zf ?_
     simp +decide only [zb, za, hpin, go_sem, reduceAdd, reduceMul]
     refine zd hnr hpin ?_
     simp +decide only [w1, zb, za, hpin, go_sem, reduceAdd, reduceMul]
     refine zd (in' fn 0 (p.fns.length - 1)) hpin ?_
     simp +decide only [h0, e0, zb, za, hpin, go_sem, reduceAdd, reduceMul]
 | false =>
   rw [hR] at hnr
   simp only [zb] at hnr
   refine zm (fn := Tryz.f117) (c := Tryz.f117.body.getD .skip) (res := [.tm 4, .tm 5]) (n := 35) zf (by kernel_rfl) (by rfl) (by kernel_rfl) (by rfl) (by rfl) (by simp [zp]) (fun uf ub C hpin hpin2 hfull => ?_)
   simp only [Tryz.f117, Option.getD_some]
   refine Tri.step zf ?_
   simp +decide only [zb, za, hpin, go_sem, reduceAdd, reduceMul]
   refine Tri.ent ?_ (Ent.frb hfull 2)
   refine Tri.step zf ?_
   simp +decide only [zb, za, hpin, go_sem, reduceAdd, reduceMul]
   refine zd hnr hpin ?_
   simp +decide only [e0, zb, za, hpin, go_sem, reduceAdd, reduceMul]
theorem zcT (p : ProgramD) (fn : Int) (hf : p.fns.length <= 1048576) (hn : p.nodes.length <= 1048576) (hk : ∀ x ∈ p.nodes, x.kids.length <= 1048576) (hpl : ∀ f ∈ p.fns, f.params.length <= 1048576) :
   zu Tryz.prog 54 [.ro (zb p), .ro (.sc (.int .i64 fn))] (fun rs st => rs = [(false, [.row false 96 (rows (varC false) (zeS p fn))]), (false, [cB (zaM p fn)])]) := by
 have e0 : rows (varC false) ([] : List VarD) = [] := rfl
 have w1 : IntKind.i64.wrap ((p.fns.length : Int) - 1) = (p.fns.length : Int) - 1 := w64 (by omega) (by omega)
 have hnr := Yw p hf hn hk hpl
 simp only [zb] at hnr
 unfold zeS zaM
 refine zm (fn := Tryz.f54) (c := Tryz.f54.body.getD .skip) (res := [.tm 4, .tm 5]) (n := 24) zf (by kernel_rfl) (by rfl) (by kernel_rfl) (by rfl) (by rfl) (by simp [zp]) (fun uf ub C hpin hpin2 hfull => ?_)
 simp only [Tryz.f54, Option.getD_some]
 refine Tri.step zf ?_
 simp +decide only [zb, za, hpin, go_sem, reduceAdd, reduceMul]
 refine Tri.ent ?_ (Ent.frb hfull 2)
 refine Tri.step zf ?_
 simp +decide only [zb, za, hpin, go_sem, reduceAdd, reduceMul]
 refine zd hnr hpin ?_
 cases hR : yi p with
 | false => simp +decide only [e0, zb, za, hpin, go_sem, reduceAdd, reduceMul]
 | true =>
 have hG := yh (Bool.and_eq_true_iff.1 hR).1
 have hk3 : ∀ x ∈ p.nodes, x.kids.length <= 300 := fun x hx => by have := hG.deep.few x hx; omega
 simp +decide only [w1, zb, za, hpin, go_sem, reduceAdd, reduceMul]
 refine zd (xv fn 0 (p.fns.length - 1)) hpin ?_
 cases h0 : inI fn 0 (p.fns.length - 1) with
 | false => simp +decide only [e0, zb, za, hpin, go_sem, reduceAdd, reduceMul]
 | true =>
 have hts := zbX p hG.deep fn hf hn hk3 hpl
 simp only [zb] at hts
 simp +decide only [zb, za, hpin, go_sem, reduceAdd, reduceMul]
 refine ze zf _ ?_
 simp +decide only [zb, za, hpin, go_sem, reduceAdd, reduceMul]
 have htk := yq (varC false) (zL p fn)
 cases hB : YZ p fn with
 | true =>
   rw [hB] at hts
   simp only [if_true] at hts
   refine zd hts hpin ?_
   simp +decide only [htk, zb, za, hpin, go_sem, reduceAdd, reduceMul]
 | false =>
   rw [hB] at hts
   simp only [if_false, Bool.false_eq_true] at hts
   refine zd hts hpin ?_
   simp +decide only [e0, zb, za, hpin, go_sem, reduceAdd, reduceMul]
set_option maxHeartbeats 4000000
section
variable {P : Program} {w w1 : World} {C : Cx} {X : Nat -> Prop} {gh gh' : Gh} {st st' : St} {a : Act} {v : V} {u : Value} {K : St -> Prop}
def St.own (st : St) (t : Nat) (e : TypeId) (o : Nat) : St := match look st.ob o with
 | none => (match st.get t with
   | .nil _ => (st.put o (.row e [])).set t (.ref o [] 0)
   | .sc (.slice none 0 0) => (st.put o (.row e [])).set t (.ref o [] 0)
   | _ => st)
 | _ => st
theorem Ent.own (t : Nat) (e : TypeId) (o : Nat) (hp : C.pin o = none) : Ent P C st (st.own t e o) := fun a w gh h => by
 have key : ∀ (ho : look st.ob o = none), a.tmps.getD t undef = .slice none 0 0 -> ∃ gh', Rep P C No ((st.put o (.row e [])).set t (.ref o [] 0)) a w gh' := fun ho hu => by
   have h1 : ObR P w (gh.upd o (.slice none 0 0) 0 0 (fun _ => False)) o (.row e []) := .row (by
     have : Ow P w gh.S (.sc (.slice none 0 0)) (.slice none 0 0) (fun _ => False) := .sc rfl
     simpa [Gh.upd] using this.nilr (e := e))
   have h2 := (h.lay ho hp h1 (fun k hk => hk.elim)).less (X' := No) (fun k hk => hk.elim)
   refine ⟨_, h2.set0 ?_⟩
   rw [hu]
   refine .ref (x := .row e []) (e := e) (es := []) (A := none) (c := 0) (xc _ _ _) ?_ (Nat.le_refl _)
   have : (gh.upd o (.slice none 0 0) 0 0 (fun _ => False)).hv o = .slice none 0 0 := by simp [Gh.upd]
   show Nav P w (.row false e []) ((gh.upd o (.slice none 0 0) 0 0 (fun _ => False)).hv o) [] (.row false e []) (.slice none 0 0)
   rw [this]
   exact .nil
 unfold St.own
 split
 · rename_i ho
   have ht := h.tms t
   split
   · rename_i he
     rw [he] at ht
     refine key ho ?_
     generalize a.tmps.getD t undef = u at ht
     cases ht; rfl
   · rename_i he
     rw [he] at ht
     refine key ho ?_
     generalize a.tmps.getD t undef = u at ht
     cases ht; rfl
   · exact ⟨gh, h⟩
 · exact ⟨gh, h⟩
def SoundAtN (P : Program) (f : FuncId) (ts : (Nat -> Value) -> List V) (ob0 : List (Nat × Ob)) (post : List RV -> St -> Prop) : Prop :=
 Ya P f = true /\ ∀ (uf : Nat -> Value) (ub : Nat -> Nat × Nat) (C : Cx) (w : World) (gh : Gh) (us : Array Value), C.w0 = w -> (∀ o, xN o = false -> C.pin o = none) -> (∀ o, xN o = true -> C.pin o = some (uf o, ub o)) -> us.size = (ts uf).length ->
   Rep P C No ⟨us.size, zipT 0 (ts uf), ob0⟩ ⟨us, []⟩ w gh ->
   Calls P f us w (fun e w' => ∃ (vs : List Value) (rs : List RV) (st' : St) (a' : Act) (gh' : Gh) (G : Nat -> Nat -> Nat -> Prop), e = .returned (tupV vs) /\ post rs st' /\ Res P w' gh'.S rs vs G /\ Rep P C (Xd rs G) st' a' w' gh')
theorem SoundAtN.at {f : FuncId} {ts : (Nat -> Value) -> List V} {ob0 : List (Nat × Ob)} {post : List RV -> St -> Prop} (h : SoundAtN P f ts ob0 post) : SoundAt P f ts ob0 post :=
 ⟨h.1, fun uf ub C w gh us h1 h2 h3 _ h5 h6 => h.2 uf ub C w gh us h1 h2 h3 h5 h6⟩
end
attribute [go_sem] St.own
def aAny (P : Program) (C : Cx) (ops : Array Oper) : List (Nat × Sch) -> St -> (St -> Prop) -> Prop
 | [], _, _ => True
 | (i, r) :: t, st, K => zcB P C ops i st (fun st' => Xh P C ops r st' K) /\ aAny P C ops t st K
def aPre (P : Program) (C : Cx) (ops : Array Oper) (L : List (Nat × Sch)) : List Nat -> St -> (St -> Prop) -> Prop
 | [], st, K => aAny P C ops L st K
 | i :: r, st, K => match ops[i]? with
   | some o => Ze st o /\ (match zku P ops st o with
     | some (s, v) => s /\ ev (b := ⟨fun st' => aPre P C ops L r st' K⟩) (Zx st o.dst v)
     | none => False)
   | none => False
def preB (ops : Array Oper) (L : List (Nat × Sch)) : List Nat -> Array Bool -> Nat -> Bool
 | [], l, n + 1 => Region.ready .any ops l == L.map (·.1) && (!L.isEmpty && L.all (fun p => zaa ops p.2 (l.setIfInBounds p.1 true) n))
 | i :: r, l, n + 1 => ((Region.ready .any ops l).contains i && Region.free .any ops l i) && preB ops L r (l.setIfInBounds i true) n
 | _, _, 0 => false
def zop (ops : Array Oper) (pre : List Nat) (L : List (Nat × Sch)) : Bool := Region.noSelect ops && preB ops L pre (Array.replicate ops.size false) ops.size
section
variable {P : Program} {w w1 : World} {C : Cx} {X : Nat -> Prop} {gh gh1 : Gh} {st : St} {a : Act} {v : V} {u : Value} {ob : List (Nat × Ob)} {S : Nat -> Prop} {K : St -> Prop}
theorem zkg {ops : Array Oper} : ∀ {L : List (Nat × Sch)}, aAny P C ops L st K -> ∀ p ∈ L, zcB P C ops p.1 st (fun st' => Xh P C ops p.2 st' K)
 | [], _, p, hp => by simp at hp
 | (i, r) :: t, h, p, hp => by
   rcases List.mem_cons.1 hp with rfl | hp
   · exact h.1
   · exact zkg h.2 p hp
theorem zfq (hz : xu P) {ops : Array Oper} {Q : Exit -> St -> Prop} {w : World} {gh : Gh} {C0 : Cx} {X0 : Nat -> Prop} {st0 : St} {a0 : Act} (h0 : Rep P C0 X0 st0 a0 w gh) (hns : Region.noSelect ops = true) (L : List (Nat × Sch)) :
   ∀ (pre : List Nat) (l : Array Bool) (n : Nat) {st : St} {a : Act} {w1 : World} {gh1 : Gh}, Rep P (C0.here w gh.S) No st a w1 gh1 -> preB ops L pre l n = true -> aPre P (C0.here w gh.S) ops L pre st (Q .normal) ->
   wpAnyH P .any ops (fun e a' w' => match e with | .normal => Up P (C0.here w gh.S) (Q .normal) a' w' | _ => False) (fun w' => ∀ k, gh.S k -> w'.heap[k]? = w.heap[k]?) n l a w1
 | [], l, 0, st, a, w1, gh1, h, hb, hk => by simp [preB] at hb
 | _ :: _, l, 0, st, a, w1, gh1, h, hb, hk => by simp [preB] at hb
 | [], l, n + 1, st, a, w1, gh1, h, hb, hk => by
   simp only [preB, Bool.and_eq_true, beq_iff_eq] at hb
   obtain ⟨hb1, hb2, hb3⟩ := hb
   have hne : L.map (·.1) ≠ [] := by
     cases L with
     | nil => simp at hb2
     | cons p t => simp
   refine wpAnyH_all (rs := L.map (·.1)) hb1 hne (fun i' hi' => ?_)
   obtain ⟨p, hp, rfl⟩ := List.mem_map.1 hi'
   have hk := zkg hk p hp
   have hbp := List.all_eq_true.1 hb3 p hp
   unfold zcB at hk
   split at hk
   case h_2 => exact hk.elim
   rename_i o ho
   obtain ⟨hdst, hk⟩ := hk
   unfold wpOp
   simp only [ho]
   have hop := Yv (Q := fun e a' w' => match e with | .normal => Up P (C0.here w gh.S) (Q .normal) a' w' | _ => False) hz h hdst hk
   have next : ∀ a' w', Up P (C0.here w gh.S) (fun st' => Xh P (C0.here w gh.S) ops p.2 st' (Q .normal)) a' w' -> (∀ k, gh.S k -> w'.heap[k]? = w.heap[k]?) /\
       wpAnyH P .any ops (fun e a' w' => match e with | .normal => Up P (C0.here w gh.S) (Q .normal) a' w' | _ => False) (fun w' => ∀ k, gh.S k -> w'.heap[k]? = w.heap[k]?) n (l.setIfInBounds p.1 true) a' w' := fun a' w' ⟨st', gh', hk', h'⟩ =>
     ⟨h0.lent h', zeu hz h0 hns p.2 _ _ h' hbp hk'⟩
   split
   · rename_i hw
     rw [if_pos hw] at hop
     exact Or.inl (Oper.wp_mono next hop)
   · rename_i hw
     rw [if_neg hw] at hop
     exact next _ _ hop
 | i :: r, l, n + 1, st, a, w1, gh1, h, hb, hk => by
   simp only [preB, Bool.and_eq_true] at hb
   obtain ⟨hb1, hb2⟩ := hb
   unfold aPre at hk
   split at hk
   case h_2 => exact hk.elim
   rename_i o ho
   obtain ⟨hdst, hk⟩ := hk
   split at hk
   case h_2 => exact hk.elim
   rename_i s v hp
   obtain ⟨y, hy, hv⟩ := zaq (Sw := fun w' => ∀ k, gh.S k -> w'.heap[k]? = w.heap[k]?) hz h (fun w' hw k hk => by
     have h1 := h.sZ k hk
     exact (hw k h1).trans (h0.lent h k h1).symm) hp hk.1
   exact wpAnyH_take ho hns hb1.2 hb1.1 (fun c a w hq => hq.elim) hy (h0.lent h) (zfq hz h0 hns L r _ _ (h.dst (zai hdst) hv) hb2 hk.2)
theorem Tri.many (hz : xu P) {id : Nat} {ops : Array Oper} {Q : Exit -> St -> Prop} (pre : List Nat) (L : List (Nat × Sch)) (hm : P.follows .mixedOrders = true) (hb : zop ops pre L = true) (hk : ∀ C', C'.pin = C.pin -> aPre P C' ops L pre st (Q .normal)) : Tri P C st (.region id ops true) Q := fun a w gh hR => by
 simp only [zop, Bool.and_eq_true] at hb
 obtain ⟨hb1, hb2⟩ := hb
 have hd := hR.drew
 refine Code.wp_mono (fun e a' w' hq => ?_) (wp_region_held (S := fun w' => ∀ k, gh.S k -> w'.heap[k]? = w.drew.heap[k]?) hm ?_ (Q := fun e a' w' => match e with | .normal => Up P (C.here w.drew gh.S) (Q .normal) a' w' | _ => False))
 · cases e with
   | normal =>
     obtain ⟨st', gh', hk', h'⟩ := hq
     exact ⟨st', gh', hk', hd.back h'⟩
   | _ => exact hq.elim
 · exact zfq hz hd hb1 L pre (Array.replicate ops.size false) ops.size hd.here hb2 (Q := Q) (hk _ rfl)
end
attribute [go_sem] aAny aPre
set_option maxHeartbeats 8000000
theorem zrt : fo Tryz.prog 183 0 = some 0 := by kernel_rfl
theorem zrs : fo Tryz.prog 183 1 = some 1 := by kernel_rfl
theorem zrr : fo Tryz.prog 183 2 = some 2 := by kernel_rfl
theorem rPkr : isR Tryz.prog 183 = some true := by kernel_rfl
theorem sPkr : szT Tryz.prog 183 = 3 := by kernel_rfl
theorem zPkr : zeroCells Tryz.prog 183 = some [.slice none 0 0, .slice none 0 0, .bool false] := by kernel_rfl
theorem zrg : xy Tryz.prog 183 = some [(0, 1), (1, 1), (2, 1)] := by kernel_rfl
attribute [go_sem] zrt zrs zrr rPkr sPkr zPkr zrg
theorem zrq : fo Tryz.prog 178 0 = some 0 := by kernel_rfl
theorem zrp : fo Tryz.prog 178 1 = some 1 := by kernel_rfl
theorem zro : fo Tryz.prog 178 2 = some 2 := by kernel_rfl
theorem rPks : isR Tryz.prog 178 = some true := by kernel_rfl
theorem sPks : szT Tryz.prog 178 = 3 := by kernel_rfl
theorem zPks : zeroCells Tryz.prog 178 = some [.slice none 0 0, .slice none 0 0, .bool false] := by kernel_rfl
theorem zrf : xy Tryz.prog 178 = some [(0, 1), (1, 1), (2, 1)] := by kernel_rfl
attribute [go_sem] zrq zrp zro rPks sPks zPks zrf
def pkC (N to : List NodeD) (b : Bool) : List D := [.row true 83 (rows (zg true) N), .row false 83 (rows (zg false) to), .sc (.bool b)]
theorem zmB {l : List Int} {i : Nat} (h : i < l.length) : l.drop i = l[i] :: l.drop (i + 1) := List.drop_eq_getElem_cons h
theorem zgU (V : Int -> PkS -> Int × PkS) {l : List Int} {i : Nat} (h : i < l.length) {t : PkS} (ht : t.bad = false) : runB V (l.drop i) t = ((V l[i] t).1 :: (runB V (l.drop (i + 1)) (V l[i] t).2).1, (runB V (l.drop (i + 1)) (V l[i] t).2).2) := by
 rw [zmB h]
 conv => lhs; unfold runB
 rw [if_neg (by simp [ht])]
theorem zbK (l : List NodeD) (x : NodeD) : rows (zg false) l ++ [[D.sc (.int .i64 x.kind), .sc (.int .i64 x.num), .sc (.string x.name), .row false 3 (row1 cI x.kids)]] = rows (zg false) (l ++ [x]) := Xp (zg false) l x
def PutI (N : List NodeD) (d : Nat) : Prop := ∀ (k : Int) (s : PkS), s.to.length <= 300 -> SoundAt Tryz.prog 189 (fun uf => zp 0 [.ro (.bp 2000 0), .ro (.sc (.int .i64 k)), .ro (.sc (.int .i64 (11 - (d : Int))))]) [(2000, .box (pkC N s.to s.bad))]
 (fun rs st => rs = [(false, [cI (pkI N d k s).1])] /\ xK st.ob [(2000, .box (pkC N (pkI N d k s).2.to (pkI N d k s).2.bad))])
theorem zoT (N : List NodeD) (hN : N.length <= 1048576) (hK : ∀ x ∈ N, x.kids.length <= 1048576) (d : Nat) (hd : d <= 10) (ih : ∀ e, e < d -> PutI N e) : PutI N d := by
 intro k s hs
 have w1 : IntKind.i64.wrap ((N.length : Int) - 1) = (N.length : Int) - 1 := w64 (by omega) (by omega)
 have stop : ∀ s, pkI N d k s = yQ s -> SoundAt Tryz.prog 189 (fun uf => zp 0 [.ro (.bp 2000 0), .ro (.sc (.int .i64 k)), .ro (.sc (.int .i64 (11 - (d : Int))))]) [(2000, .box (pkC N s.to s.bad))]
     (fun rs st => rs = [(false, [cI (yQ s).1])] /\ xK st.ob [(2000, .box (pkC N (yQ s).2.to (yQ s).2.bad))]) -> SoundAt Tryz.prog 189 (fun uf => zp 0 [.ro (.bp 2000 0), .ro (.sc (.int .i64 k)), .ro (.sc (.int .i64 (11 - (d : Int))))]) [(2000, .box (pkC N s.to s.bad))]
     (fun rs st => rs = [(false, [cI (pkI N d k s).1])] /\ xK st.ob [(2000, .box (pkC N (pkI N d k s).2.to (pkI N d k s).2.bad))]) := fun s h1 h2 => by rw [h1]; exact h2
 obtain ⟨to, sb⟩ := s
 simp only at hs
 cases sb with
 | true =>
   refine stop _ (by cases d with | zero => rfl | succ d => unfold pkI; rw [if_pos (by simp)]) ?_
   simp only [yQ]
   refine zm (fn := Tryz.f189) (c := Tryz.f189.body.getD .skip) (res := [.tm 6]) (n := 97) zf (by kernel_rfl) (by rfl) (by kernel_rfl) (by rfl) (by rfl) (by simp [zp]) (fun uf ub C hpin hpin2 hfull => ?_)
   simp only [Tryz.f189, Option.getD_some]
   refine Tri.step zf ?_
   simp +decide only [pkC, hpin, hpin2, go_sem, reduceAdd, reduceMul]
   refine Tri.step zf ?_
   simp +decide only [pkC, hpin, hpin2, go_sem, reduceAdd, reduceMul]
 | false =>
 have hin := in' k 0 (N.length - 1)
 cases hi : inI k 0 (N.length - 1) with
 | false =>
   rw [hi] at hin
   refine stop _ (by cases d with | zero => rfl | succ d => unfold pkI; rw [if_pos (by simp [hi])]) ?_
   simp only [yQ]
   refine zm (fn := Tryz.f189) (c := Tryz.f189.body.getD .skip) (res := [.tm 6]) (n := 97) zf (by kernel_rfl) (by rfl) (by kernel_rfl) (by rfl) (by rfl) (by simp [zp]) (fun uf ub C hpin hpin2 hfull => ?_)
   simp only [Tryz.f189, Option.getD_some]
   refine Tri.step zf ?_
   simp +decide only [pkC, hpin, hpin2, go_sem, reduceAdd, reduceMul]
   refine Tri.step zf ?_
   simp +decide only [w1, pkC, hpin, hpin2, go_sem, reduceAdd, reduceMul]
   refine zd hin hpin ?_
   simp +decide only [w1, pkC, hpin, hpin2, go_sem, reduceAdd, reduceMul]
 | true =>
 rw [hi] at hin
 have hr := zx hi
 obtain ⟨n, rfl⟩ : ∃ n : Nat, k = n := ⟨k.toNat, by omega⟩
 have hnl : n < N.length := by omega
 by_cases h10 : (10 : Int) < 11 - (d : Int)
 · have e10 : ((10 : Int) < 11 - (d : Int)) = True := eq_true h10
   have hd0 : d = 0 := by omega
   refine stop _ (by subst hd0; rfl) ?_
   simp only [yQ]
   refine zm (fn := Tryz.f189) (c := Tryz.f189.body.getD .skip) (res := [.tm 6]) (n := 97) zf (by kernel_rfl) (by rfl) (by kernel_rfl) (by rfl) (by rfl) (by simp [zp]) (fun uf ub C hpin hpin2 hfull => ?_)
   simp only [Tryz.f189, Option.getD_some]
   refine Tri.step zf ?_
   simp +decide only [pkC, hpin, hpin2, go_sem, reduceAdd, reduceMul]
   refine Tri.step zf ?_
   simp +decide only [w1, pkC, hpin, hpin2, go_sem, reduceAdd, reduceMul]
   refine zd hin hpin ?_
   simp +decide only [w1, e10, gt_iff_lt, pkC, hpin, hpin2, go_sem, reduceAdd, reduceMul]
 have e10 : ((10 : Int) < 11 - (d : Int)) = False := eq_false h10
 by_cases h300 : 300 <= to.length
 · have e300 : ((300 : Int) <= (to.length : Int)) = True := eq_true (by omega)
   refine stop _ (by cases d with | zero => rfl | succ d => unfold pkI; rw [if_pos (by simp [h300])]) ?_
   simp only [yQ]
   refine zm (fn := Tryz.f189) (c := Tryz.f189.body.getD .skip) (res := [.tm 6]) (n := 97) zf (by kernel_rfl) (by rfl) (by kernel_rfl) (by rfl) (by rfl) (by simp [zp]) (fun uf ub C hpin hpin2 hfull => ?_)
   simp only [Tryz.f189, Option.getD_some]
   refine Tri.step zf ?_
   simp +decide only [pkC, hpin, hpin2, go_sem, reduceAdd, reduceMul]
   refine Tri.step zf ?_
   simp +decide only [w1, pkC, hpin, hpin2, go_sem, reduceAdd, reduceMul]
   refine zd hin hpin ?_
   simp +decide only [w1, e10, e300, gt_iff_lt, ge_iff_le, pkC, hpin, hpin2, go_sem, reduceAdd, reduceMul]
 have e300 : ((300 : Int) <= (to.length : Int)) = False := eq_false (by omega)
 obtain ⟨e, rfl⟩ : ∃ e, d = e + 1 := ⟨d - 1, by omega⟩
 have wd : IntKind.i64.wrap (11 - ((e + 1 : Nat) : Int) + 1) = 11 - (e : Int) := by rw [w64 (by omega) (by omega)]; omega
 have hrec := ih e (by omega)
 unfold PutI at hrec
 have hmost := fun k s h => XO N e k s h
 have hx : (rows (zg true) N).getD n [] = zg true N[n] := zh _ _ hnl
 have hkx := hK N[n] (List.getElem_mem hnl)
 have hc1 : ((n : Int) < (N.length : Int)) = True := eq_true (by omega)
 have hpk : pkI N (e + 1) n ⟨to, false⟩ = if (runB (pkI N e) N[n].kids ⟨to, false⟩).2.bad then (-1, (runB (pkI N e) N[n].kids ⟨to, false⟩).2) else
     if decide (300 <= (runB (pkI N e) N[n].kids ⟨to, false⟩).2.to.length) then yQ (runB (pkI N e) N[n].kids ⟨to, false⟩).2 else zas N[n] (runB (pkI N e) N[n].kids ⟨to, false⟩) := by
   conv => lhs; unfold pkI
   rw [if_neg (by simp [hi]; omega), zF hnl]
 rw [hpk]
 dsimp only
 generalize N[n] = x at hx hkx
 generalize hV : pkI N e = V at hrec hmost
 obtain ⟨R, hR⟩ : ∃ R, runB V x.kids ⟨to, false⟩ = R := ⟨_, rfl⟩
 rw [hR]
 refine zm (fn := Tryz.f189) (c := Tryz.f189.body.getD .skip) (res := [.tm 6]) (n := 97) zf (by kernel_rfl) (by rfl) (by kernel_rfl) (by rfl) (by rfl) (by simp [zp]) (fun uf ub C hpin hpin2 hfull => ?_)
 simp only [Tryz.f189, Option.getD_some]
 refine Tri.step zf ?_
 simp +decide only [pkC, hpin, hpin2, go_sem, reduceAdd, reduceMul]
 refine Tri.step zf ?_
 simp +decide only [w1, pkC, hpin, hpin2, go_sem, reduceAdd, reduceMul]
 refine zd hin hpin ?_
 simp +decide only [w1, e10, e300, gt_iff_lt, ge_iff_le, pkC, hpin, hpin2, go_sem, reduceAdd, reduceMul]
 refine Tri.step zf ?_
 simp +decide only [hc1, hx, zg, Int.natCast_nonneg, pkC, hpin, hpin2, go_sem, reduceAdd, reduceMul]
 refine Tri.step zf ?_
 simp +decide only [pkC, hpin, hpin2, go_sem, reduceAdd, reduceMul]
 refine Tri.ent ?_ (Ent.own 8 3 8 (hpin 8 rfl))
 refine Tri.step zf ?_
 simp +decide only [pkC, hpin, hpin2, go_sem, reduceAdd, reduceMul]
 refine Tri.loop (ι := Nat × List Int × PkS) (fun q => q.1 <= x.kids.length /\ q.2.1.length = q.1 /\ q.2.2.bad = false /\ q.2.2.to.length <= 300 /\ R = (q.2.1 ++ (runB V (x.kids.drop q.1) q.2.2).1, (runB V (x.kids.drop q.1) q.2.2).2))
   (fun q => ⟨97, [(0, .bp 2000 0), (2, vI (11 - ((e + 1 : Nat) : Int))), (7, .bp 7 0), (8, .ref 8 [] q.1), (50, roI x.kids), (51, vI x.kids.length), (52, vI q.1)], [(8, .row 3 (row1 cI q.2.1)), (7, .box (zg true x)), (2000, .box (pkC N q.2.2.to q.2.2.bad))]⟩) (fun q => x.kids.length - q.1) (0, [], ⟨to, false⟩) ⟨by simp, rfl, rfl, hs, by simp [<- hR]⟩ ?_ ?_
 · refine Ent.weak ?_ ?_ ?_ ?_ <;> simp +decide [zR, subT, subB, zk, zj, zl, St.get, look, vI, vB, vS, cI, cS, cB, zg, pkC, roI, row1]
 · rintro ⟨i, acc, tt, tb⟩ ⟨hi2, hal, htb, htl, hRe⟩
   simp only at hi2 hal htb htl hRe |-
   subst htb
   refine ze zf _ ?_
   by_cases h' : i < x.kids.length
   · have e1 : ((i : Int) < (x.kids.length : Int)) = True := by simp [h']
     rw [zgU V h' rfl] at hRe
     have hcall := hrec x.kids[i] ⟨tt, false⟩ htl
     have htl2 := hmost x.kids[i] ⟨tt, false⟩ htl
     generalize V x.kids[i] ⟨tt, false⟩ = r at hRe hcall htl2
     obtain ⟨ra, t2, t2b⟩ := r
     simp only at hRe hcall htl2
     simp only [pkC, cI] at hcall
     have hb1 : i + 1 <= 140737488355328 := by omega
     have hb2 : (i + 1) * 8 <= 140737488355328 := by omega
     have hsn := xC cI acc ra
     simp only [cI] at hsn
     have hal2 : (acc ++ [ra]).length = i + 1 := by simp [hal]
     simp +decide only [e1, h', wd, hal, zq _ _ h', zg, Int.natCast_nonneg, vB, vI, pkC, hpin, hpin2, go_sem, reduceAdd, reduceMul]
     refine yJ hcall hpin hfull [(2000, 2000)] [] [(2000, 2000)] ⟨rfl, rfl, rfl, rfl⟩ (fun uf => ?_) ?_
     · simp +decide only [pkC, hpin, hpin2, go_sem, reduceAdd, reduceMul]
     cases t2b with
     | true =>
       rw [YM V _ rfl] at hRe
       simp only at hRe
       have hR2 : R.2 = ⟨t2, true⟩ := by rw [hRe]
       rw [hR2]
       simp +decide only [pkC, hpin, hpin2, go_sem, reduceAdd, reduceMul]
     | false =>
       simp +decide only [hal, hal2, hb1, hb2, hsn, pkC, hpin, hpin2, go_sem, reduceAdd, reduceMul]
       refine ⟨(i + 1, acc ++ [ra], ⟨t2, false⟩), ⟨h', by simp [hal], rfl, htl2, by rw [hRe]; simp⟩, by show x.kids.length - (i + 1) < x.kids.length - i; omega, Ent.weak ?_ ?_ ?_ ?_⟩
       all_goals simp +decide [zR, subT, subB, zk, zj, zl, St.get, look, vI, vB, vS, cI, cS, cB, zg, pkC, roI, hsn, hal, w64s (n := x.kids.length) h' (by omega)]
   · have hil : i = x.kids.length := by omega
     subst hil
     have e1 : ((x.kids.length : Int) < (x.kids.length : Int)) = False := by simp
     rw [List.drop_length] at hRe
     simp only [runB, List.append_nil] at hRe
     subst hRe
     simp only
     rw [if_neg (by simp)]
     by_cases g300 : 300 <= tt.length
     · have f300 : ((300 : Int) <= (tt.length : Int)) = True := eq_true (by omega)
       have d300 : decide ((300 : Int) <= (tt.length : Int)) = true := decide_eq_true (by omega)
       rw [if_pos (by simpa using g300)]
       unfold yQ
       simp +decide only [e1, ge_iff_le, vB, vI, pkC, hpin, hpin2, go_sem, reduceAdd, reduceMul]
       refine Tri.step zf ?_
       simp +decide only [f300, ge_iff_le, pkC, hpin, hpin2, go_sem, reduceAdd, reduceMul]
     · have f300 : ((300 : Int) <= (tt.length : Int)) = False := eq_false (by omega)
       have d300 : decide ((300 : Int) <= (tt.length : Int)) = false := decide_eq_false (by omega)
       rw [if_neg (by simpa using g300)]
       unfold zas
       have hsn := zbK tt ⟨x.kind, x.num, x.name, acc⟩
       have hb1 : tt.length + 1 <= 140737488355328 := by omega
       have hb2 : (tt.length + 1) * 56 <= 140737488355328 := by omega
       have w2 : IntKind.i64.wrap (((tt.length + 1 : Nat) : Int) - 1) = tt.length := by rw [show (((tt.length + 1 : Nat) : Int) - 1) = tt.length by omega]; exact w64 (by omega) (by omega)
       simp +decide only [e1, ge_iff_le, vB, vI, pkC, hpin, hpin2, go_sem, reduceAdd, reduceMul]
       refine Tri.step zf ?_
       simp +decide only [f300, ge_iff_le, pkC, hpin, hpin2, go_sem, reduceAdd, reduceMul]
       refine Tri.step zf ?_
       simp +decide only [hal, zg, pkC, hpin, hpin2, go_sem, reduceAdd, reduceMul]
       refine Tri.step zf ?_
       refine Tri.fork zf (.one 0 true (.one 1 true (.one 2 true (.one 3 true (.two 4 (.one 5 false (.one 6 false (.one 7 false (.one 8 false (.one 9 false (.one 10 false .done)))))) 5 (.two 4 (.one 6 false (.one 7 false (.one 8 false (.one 9 false (.one 10 false .done))))) 6 (.one 4 false (.one 7 false (.one 8 false (.one 9 false (.one 10 false .done))))))))))) zV (by kernel_rfl) (fun C2 hC2 => ?_)
       have hp2 := zY hC2 hpin
       simp +decide only [hb1, hb2, hsn, pkC, hp2, hpin, hpin2, go_sem, reduceAdd, reduceMul]
       refine ⟨?_, ?_, ?_⟩ <;> refine ze zf _ ?_
       all_goals simp +decide only [w2, pkC, hpin, hpin2, go_sem, reduceAdd, reduceMul]
theorem zkz (N : List NodeD) (hN : N.length <= 1048576) (hK : ∀ x ∈ N, x.kids.length <= 1048576) (d : Nat) (hd : d <= 10) : PutI N d := by
 induction d using Nat.strongRecOn with
 | ind d ih => exact zoT N hN hK d hd (fun e he => ih e he (by omega))
def PutR (N : List NodeD) (d : Nat) : Prop := ∀ (k : Int) (s : PkS), s.to.length <= 400 -> SoundAt Tryz.prog 186 (fun uf => zp 0 [.ro (.bp 2000 0), .ro (.sc (.int .i64 k)), .ro (.sc (.int .i64 (11 - (d : Int))))]) [(2000, .box (pkC N s.to s.bad))]
 (fun rs st => rs = [(false, [cI (pkR N d k s).1])] /\ xK st.ob [(2000, .box (pkC N (pkR N d k s).2.to (pkR N d k s).2.bad))])
theorem zoS (N : List NodeD) (hN : N.length <= 1048576) (hK : ∀ x ∈ N, x.kids.length <= 1048576) (d : Nat) (hd : d <= 10) (ih : ∀ e, e < d -> PutR N e) : PutR N d := by
 intro k s hs
 have w1 : IntKind.i64.wrap ((N.length : Int) - 1) = (N.length : Int) - 1 := w64 (by omega) (by omega)
 have stop : ∀ s, pkR N d k s = yQ s -> SoundAt Tryz.prog 186 (fun uf => zp 0 [.ro (.bp 2000 0), .ro (.sc (.int .i64 k)), .ro (.sc (.int .i64 (11 - (d : Int))))]) [(2000, .box (pkC N s.to s.bad))]
     (fun rs st => rs = [(false, [cI (yQ s).1])] /\ xK st.ob [(2000, .box (pkC N (yQ s).2.to (yQ s).2.bad))]) -> SoundAt Tryz.prog 186 (fun uf => zp 0 [.ro (.bp 2000 0), .ro (.sc (.int .i64 k)), .ro (.sc (.int .i64 (11 - (d : Int))))]) [(2000, .box (pkC N s.to s.bad))]
     (fun rs st => rs = [(false, [cI (pkR N d k s).1])] /\ xK st.ob [(2000, .box (pkC N (pkR N d k s).2.to (pkR N d k s).2.bad))]) := fun s h1 h2 => by rw [h1]; exact h2
 obtain ⟨to, sb⟩ := s
 simp only at hs
 cases sb with
 | true =>
   refine stop _ (by cases d with | zero => rfl | succ d => unfold pkR; rw [if_pos (by simp)]) ?_
   simp only [yQ]
   refine zm (fn := Tryz.f186) (c := Tryz.f186.body.getD .skip) (res := [.tm 6]) (n := 122) zf (by kernel_rfl) (by rfl) (by kernel_rfl) (by rfl) (by rfl) (by simp [zp]) (fun uf ub C hpin hpin2 hfull => ?_)
   simp only [Tryz.f186, Option.getD_some]
   refine Tri.step zf ?_
   simp +decide only [pkC, hpin, hpin2, go_sem, reduceAdd, reduceMul]
   refine Tri.step zf ?_
   simp +decide only [pkC, hpin, hpin2, go_sem, reduceAdd, reduceMul]
 | false =>
 by_cases h10 : (10 : Int) < 11 - (d : Int)
 · have e10 : ((10 : Int) < 11 - (d : Int)) = True := eq_true h10
   have hd0 : d = 0 := by omega
   refine stop _ (by subst hd0; rfl) ?_
   simp only [yQ]
   refine zm (fn := Tryz.f186) (c := Tryz.f186.body.getD .skip) (res := [.tm 6]) (n := 122) zf (by kernel_rfl) (by rfl) (by kernel_rfl) (by rfl) (by rfl) (by simp [zp]) (fun uf ub C hpin hpin2 hfull => ?_)
   simp only [Tryz.f186, Option.getD_some]
   refine Tri.step zf ?_
   simp +decide only [pkC, hpin, hpin2, go_sem, reduceAdd, reduceMul]
   refine Tri.step zf ?_
   simp +decide only [e10, gt_iff_lt, pkC, hpin, hpin2, go_sem, reduceAdd, reduceMul]
 have e10 : ((10 : Int) < 11 - (d : Int)) = False := eq_false h10
 have hin := xv k 0 (N.length - 1)
 cases hi : inI k 0 (N.length - 1) with
 | false =>
   rw [hi] at hin
   refine stop _ (by cases d with | zero => rfl | succ d => unfold pkR; rw [if_pos (by simp [hi])]) ?_
   simp only [yQ]
   refine zm (fn := Tryz.f186) (c := Tryz.f186.body.getD .skip) (res := [.tm 6]) (n := 122) zf (by kernel_rfl) (by rfl) (by kernel_rfl) (by rfl) (by rfl) (by simp [zp]) (fun uf ub C hpin hpin2 hfull => ?_)
   simp only [Tryz.f186, Option.getD_some]
   refine Tri.step zf ?_
   simp +decide only [pkC, hpin, hpin2, go_sem, reduceAdd, reduceMul]
   refine Tri.step zf ?_
   simp +decide only [e10, gt_iff_lt, w1, pkC, hpin, hpin2, go_sem, reduceAdd, reduceMul]
   refine zd hin hpin ?_
   simp +decide only [w1, pkC, hpin, hpin2, go_sem, reduceAdd, reduceMul]
 | true =>
 rw [hi] at hin
 have hr := zx hi
 obtain ⟨n, rfl⟩ : ∃ n : Nat, k = n := ⟨k.toNat, by omega⟩
 have hnl : n < N.length := by omega
 by_cases h300 : 300 < to.length
 · have e300 : ((300 : Int) < (to.length : Int)) = True := eq_true (by omega)
   refine stop _ (by cases d with | zero => rfl | succ d => unfold pkR; rw [if_pos (by simp [h300])]) ?_
   simp only [yQ]
   refine zm (fn := Tryz.f186) (c := Tryz.f186.body.getD .skip) (res := [.tm 6]) (n := 122) zf (by kernel_rfl) (by rfl) (by kernel_rfl) (by rfl) (by rfl) (by simp [zp]) (fun uf ub C hpin hpin2 hfull => ?_)
   simp only [Tryz.f186, Option.getD_some]
   refine Tri.step zf ?_
   simp +decide only [pkC, hpin, hpin2, go_sem, reduceAdd, reduceMul]
   refine Tri.step zf ?_
   simp +decide only [w1, e10, gt_iff_lt, pkC, hpin, hpin2, go_sem, reduceAdd, reduceMul]
   refine zd hin hpin ?_
   simp +decide only [w1, e10, e300, gt_iff_lt, pkC, hpin, hpin2, go_sem, reduceAdd, reduceMul]
 have e300 : ((300 : Int) < (to.length : Int)) = False := eq_false (by omega)
 obtain ⟨e, rfl⟩ : ∃ e, d = e + 1 := ⟨d - 1, by omega⟩
 have wd : IntKind.i64.wrap (11 - ((e + 1 : Nat) : Int) + 1) = 11 - (e : Int) := by rw [w64 (by omega) (by omega)]; omega
 have hrec := ih e (by omega)
 unfold PutR at hrec
 have hmost := fun k s h => zlU N e k s 320 (by omega) h
 have hx : (rows (zg true) N).getD n [] = zg true N[n] := zh _ _ hnl
 have hkx := hK N[n] (List.getElem_mem hnl)
 have hc1 : ((n : Int) < (N.length : Int)) = True := eq_true (by omega)
 have hpk : pkR N (e + 1) n ⟨to, false⟩ = zas N[n] (runB (pkR N e) N[n].kids ⟨to, false⟩) := by
   conv => lhs; unfold pkR
   rw [if_neg (by simp [hi]; omega), zF hnl]
 rw [hpk]
 dsimp only
 generalize N[n] = x at hx hkx
 generalize hV : pkR N e = V at hrec hmost
 obtain ⟨R, hR⟩ : ∃ R, runB V x.kids ⟨to, false⟩ = R := ⟨_, rfl⟩
 rw [hR]
 unfold zas
 refine zm (fn := Tryz.f186) (c := Tryz.f186.body.getD .skip) (res := [.tm 6]) (n := 122) zf (by kernel_rfl) (by rfl) (by kernel_rfl) (by rfl) (by rfl) (by simp [zp]) (fun uf ub C hpin hpin2 hfull => ?_)
 simp only [Tryz.f186, Option.getD_some]
 refine Tri.step zf ?_
 simp +decide only [pkC, hpin, hpin2, go_sem, reduceAdd, reduceMul]
 refine Tri.step zf ?_
 simp +decide only [w1, e10, gt_iff_lt, pkC, hpin, hpin2, go_sem, reduceAdd, reduceMul]
 refine zd hin hpin ?_
 simp +decide only [w1, e10, e300, gt_iff_lt, pkC, hpin, hpin2, go_sem, reduceAdd, reduceMul]
 refine Tri.stop zf ⟨122, [(0, .bp 2000 0), (1, vI n), (2, vI (11 - ((e + 1 : Nat) : Int))), (7, .bp 7 0)], [(7, .box [cI x.kind, cI x.num, cS x.name, .sc (.slice none 0 0)]), (2000, .box (pkC N to false))]⟩ ?_ ?_
 · refine Tri.many zf [0, 1, 2, 4, 8, 9, 10, 12, 16, 17, 18, 20] [(3, (.one 5 true (.one 6 true (.one 7 true (.three 11 (.one 13 true (.one 14 true (.one 15 true (.two 19 (.one 21 true (.one 22 true (.one 23 true (.one 24 true (.one 25 false (.one 26 false .done)))))) 25 (.one 19 false (.one 21 false (.one 22 false (.one 23 false (.one 24 false (.one 26 false .done)))))))))) 19 (.one 21 true (.one 22 true (.one 23 true (.two 11 (.one 13 true (.one 14 true (.one 15 true (.one 24 true (.one 25 false (.one 26 false .done)))))) 25 (.one 11 false (.one 13 false (.one 14 false (.one 15 false (.one 24 false (.one 26 false .done)))))))))) 25 (.two 11 (.one 13 true (.one 14 true (.one 15 true (.one 19 false (.one 21 false (.one 22 false (.one 23 false (.one 24 false (.one 26 false .done))))))))) 19 (.one 21 true (.one 22 true (.one 23 true (.one 11 false (.one 13 false (.one 14 false (.one 15 false (.one 24 false (.one 26 false .done))))))))))))))), (11, (.one 13 true (.one 14 true (.one 15 true (.three 3 (.one 5 true (.one 6 true (.one 7 true (.two 19 (.one 21 true (.one 22 true (.one 23 true (.one 24 true (.one 25 false (.one 26 false .done)))))) 25 (.one 19 false (.one 21 false (.one 22 false (.one 23 false (.one 24 false (.one 26 false .done)))))))))) 19 (.one 21 true (.one 22 true (.one 23 true (.two 3 (.one 5 true (.one 6 true (.one 7 true (.one 24 true (.one 25 false (.one 26 false .done)))))) 25 (.one 3 false (.one 5 false (.one 6 false (.one 7 false (.one 24 false (.one 26 false .done)))))))))) 25 (.two 3 (.one 5 true (.one 6 true (.one 7 true (.one 19 false (.one 21 false (.one 22 false (.one 23 false (.one 24 false (.one 26 false .done))))))))) 19 (.one 21 true (.one 22 true (.one 23 true (.one 3 false (.one 5 false (.one 6 false (.one 7 false (.one 24 false (.one 26 false .done))))))))))))))), (19, (.one 21 true (.one 22 true (.one 23 true (.three 3 (.one 5 true (.one 6 true (.one 7 true (.two 11 (.one 13 true (.one 14 true (.one 15 true (.one 24 true (.one 25 false (.one 26 false .done)))))) 25 (.one 11 false (.one 13 false (.one 14 false (.one 15 false (.one 24 false (.one 26 false .done)))))))))) 11 (.one 13 true (.one 14 true (.one 15 true (.two 3 (.one 5 true (.one 6 true (.one 7 true (.one 24 true (.one 25 false (.one 26 false .done)))))) 25 (.one 3 false (.one 5 false (.one 6 false (.one 7 false (.one 24 false (.one 26 false .done)))))))))) 25 (.two 3 (.one 5 true (.one 6 true (.one 7 true (.one 11 false (.one 13 false (.one 14 false (.one 15 false (.one 24 false (.one 26 false .done))))))))) 11 (.one 13 true (.one 14 true (.one 15 true (.one 3 false (.one 5 false (.one 6 false (.one 7 false (.one 24 false (.one 26 false .done))))))))))))))), (25, (.three 3 (.one 5 true (.one 6 true (.one 7 true (.two 11 (.one 13 true (.one 14 true (.one 15 true (.one 19 false (.one 21 false (.one 22 false (.one 23 false (.one 24 false (.one 26 false .done))))))))) 19 (.one 21 true (.one 22 true (.one 23 true (.one 11 false (.one 13 false (.one 14 false (.one 15 false (.one 24 false (.one 26 false .done))))))))))))) 11 (.one 13 true (.one 14 true (.one 15 true (.two 3 (.one 5 true (.one 6 true (.one 7 true (.one 19 false (.one 21 false (.one 22 false (.one 23 false (.one 24 false (.one 26 false .done))))))))) 19 (.one 21 true (.one 22 true (.one 23 true (.one 3 false (.one 5 false (.one 6 false (.one 7 false (.one 24 false (.one 26 false .done))))))))))))) 19 (.one 21 true (.one 22 true (.one 23 true (.two 3 (.one 5 true (.one 6 true (.one 7 true (.one 11 false (.one 13 false (.one 14 false (.one 15 false (.one 24 false (.one 26 false .done))))))))) 11 (.one 13 true (.one 14 true (.one 15 true (.one 3 false (.one 5 false (.one 6 false (.one 7 false (.one 24 false (.one 26 false .done)))))))))))))))] zV (by kernel_rfl) (fun C2 hC2 => ?_)
   have hp2 := zY hC2 hpin
   simp +decide only [hc1, hx, zg, Int.natCast_nonneg, pkC, hp2, hpin, hpin2, go_sem, reduceAdd, reduceMul]
   repeat' (refine And.intro ?_ ?_)
   all_goals refine Ent.weak ?_ ?_ ?_ ?_
   all_goals simp +decide [zR, subT, subB, zk, zj, zl, St.get, look, vI, vB, vS, cI, cS, cB, zg, pkC, roI]
 refine Tri.ent ?_ (Ent.nilr 7 3 3)
 refine Tri.step zf ?_
 simp +decide only [pkC, hpin, hpin2, go_sem, reduceAdd, reduceMul]
 refine Tri.loop (ι := Nat × List Int × PkS) (fun q => q.1 <= x.kids.length /\ q.2.1.length = q.1 /\ q.2.2.to.length <= 320 /\ R = (q.2.1 ++ (runB V (x.kids.drop q.1) q.2.2).1, (runB V (x.kids.drop q.1) q.2.2).2))
   (fun q => ⟨122, [(0, .bp 2000 0), (1, vI n), (2, vI (11 - ((e + 1 : Nat) : Int))), (7, .bp 7 0), (8, vI q.1)], [(7, .box [cI x.kind, cI x.num, cS x.name, .row false 3 (row1 cI q.2.1)]), (2000, .box (pkC N q.2.2.to q.2.2.bad))]⟩) (fun q => x.kids.length - q.1) (0, [], ⟨to, false⟩) ⟨by simp, rfl, by simp only; omega, by simp [<- hR]⟩ ?_ ?_
 · refine Ent.weak ?_ ?_ ?_ ?_ <;> simp +decide [zR, subT, subB, zk, zj, zl, St.get, look, vI, vB, vS, cI, cS, cB, zg, pkC, roI, row1]
 · rintro ⟨i, acc, tt, tb⟩ ⟨hi2, hal, htl, hRe⟩
   simp only at hi2 hal htl hRe |-
   have hdel : (List.drop i x.kids) = [] \/ i < x.kids.length := by
     by_cases h : i < x.kids.length
     · exact Or.inr h
     · exact Or.inl (List.drop_eq_nil_of_le (by omega))
   refine ze zf _ ?_
   by_cases h' : i < x.kids.length
   · have e1 : ((i : Int) < (x.kids.length : Int)) = True := by simp [h']
     cases tb with
     | true =>
       rw [YM V _ rfl] at hRe
       simp only [List.append_nil] at hRe
       simp +decide only [hc1, hx, e1, zg, Int.natCast_nonneg, vB, vI, pkC, hpin, hpin2, go_sem, reduceAdd, reduceMul]
       subst hRe
       have hsn := zbK tt ⟨x.kind, x.num, x.name, acc⟩
       have hb1 : tt.length + 1 <= 140737488355328 := by omega
       have hb2 : (tt.length + 1) * 56 <= 140737488355328 := by omega
       have w2 : IntKind.i64.wrap (((tt.length + 1 : Nat) : Int) - 1) = tt.length := by rw [show (((tt.length + 1 : Nat) : Int) - 1) = tt.length by omega]; exact w64 (by omega) (by omega)
       refine Tri.step zf ?_
       refine Tri.fork zf (.one 0 true (.one 1 true (.one 2 true (.one 3 true (.two 4 (.one 5 false (.one 6 false (.one 7 false (.one 8 false (.one 9 false (.one 10 false .done)))))) 5 (.two 4 (.one 6 false (.one 7 false (.one 8 false (.one 9 false (.one 10 false .done))))) 6 (.one 4 false (.one 7 false (.one 8 false (.one 9 false (.one 10 false .done))))))))))) zV (by kernel_rfl) (fun C2 hC2 => ?_)
       have hp2 := zY hC2 hpin
       simp +decide only [hb1, hb2, hsn, pkC, hp2, hpin, hpin2, go_sem, reduceAdd, reduceMul]
       refine ⟨?_, ?_, ?_⟩ <;> refine ze zf _ ?_
       all_goals simp +decide only [w2, pkC, hpin, hpin2, go_sem, reduceAdd, reduceMul]
     | false =>
     rw [zgU V h' rfl] at hRe
     have hcall := hrec x.kids[i] ⟨tt, false⟩ (by simp only; omega)
     have htl2 := hmost x.kids[i] ⟨tt, false⟩ htl
     generalize V x.kids[i] ⟨tt, false⟩ = r at hRe hcall htl2
     obtain ⟨ra, t2⟩ := r
     simp only at hRe hcall htl2
     simp only [pkC, cI] at hcall
     have hb1 : i + 1 <= 140737488355328 := by omega
     have hb2 : (i + 1) * 8 <= 140737488355328 := by omega
     have hsn := xC cI acc ra
     simp only [cI] at hsn
     have hal2 : (acc ++ [ra]).length = i + 1 := by simp [hal]
     simp +decide only [hc1, hx, e1, h', wd, hal, zq _ _ h', zg, Int.natCast_nonneg, vB, vI, pkC, hpin, hpin2, go_sem, reduceAdd, reduceMul]
     refine yJ hcall hpin hfull [(2000, 2000)] [] [(2000, 2000)] ⟨rfl, rfl, rfl, rfl⟩ (fun uf => ?_) ?_
     · simp +decide only [pkC, hpin, hpin2, go_sem, reduceAdd, reduceMul]
     simp +decide only [hal, hal2, hb1, hb2, hsn, pkC, hpin, hpin2, go_sem, reduceAdd, reduceMul]
     refine ⟨(i + 1, acc ++ [ra], t2), ⟨h', by simp [hal], htl2, by rw [hRe]; simp⟩, by show x.kids.length - (i + 1) < x.kids.length - i; omega, Ent.weak ?_ ?_ ?_ ?_⟩
     all_goals simp +decide [zR, subT, subB, zk, zj, zl, St.get, look, vI, vB, vS, cI, cS, cB, zg, pkC, roI, hsn, hal, w64s (n := x.kids.length) h' (by omega)]
   · have hil : i = x.kids.length := by omega
     subst hil
     have e1 : ((x.kids.length : Int) < (x.kids.length : Int)) = False := by simp
     rw [List.drop_length] at hRe
     simp only [runB, List.append_nil] at hRe
     simp +decide only [hc1, hx, e1, zg, Int.natCast_nonneg, vB, vI, pkC, hpin, hpin2, go_sem, reduceAdd, reduceMul]
     subst hRe
     have hsn := zbK tt ⟨x.kind, x.num, x.name, acc⟩
     have hb1 : tt.length + 1 <= 140737488355328 := by omega
     have hb2 : (tt.length + 1) * 56 <= 140737488355328 := by omega
     have w2 : IntKind.i64.wrap (((tt.length + 1 : Nat) : Int) - 1) = tt.length := by rw [show (((tt.length + 1 : Nat) : Int) - 1) = tt.length by omega]; exact w64 (by omega) (by omega)
     refine Tri.step zf ?_
     refine Tri.fork zf (.one 0 true (.one 1 true (.one 2 true (.one 3 true (.two 4 (.one 5 false (.one 6 false (.one 7 false (.one 8 false (.one 9 false (.one 10 false .done)))))) 5 (.two 4 (.one 6 false (.one 7 false (.one 8 false (.one 9 false (.one 10 false .done))))) 6 (.one 4 false (.one 7 false (.one 8 false (.one 9 false (.one 10 false .done))))))))))) zV (by kernel_rfl) (fun C2 hC2 => ?_)
     have hp2 := zY hC2 hpin
     simp +decide only [hb1, hb2, hsn, pkC, hp2, hpin, hpin2, go_sem, reduceAdd, reduceMul]
     refine ⟨?_, ?_, ?_⟩ <;> refine ze zf _ ?_
     all_goals simp +decide only [w2, pkC, hpin, hpin2, go_sem, reduceAdd, reduceMul]
theorem zky (N : List NodeD) (hN : N.length <= 1048576) (hK : ∀ x ∈ N, x.kids.length <= 1048576) (d : Nat) (hd : d <= 10) : PutR N d := by
 induction d using Nat.strongRecOn with
 | ind d ih => exact zoS N hN hK d hd (fun e he => ih e he (by omega))
def szF (nodes : List NodeD) : Nat -> Int -> Nat
 | 0, _ => 0
 | d + 1, k => 3 + (nAt nodes k).kids.length + sumN (szF nodes d) (nAt nodes k).kids
def szB (nodes : List NodeD) (k : Int) : Nat := szF nodes (k.toNat + 1) k
structure LowD where
 locs : List Int
 words : List InsD
def LowD.le (s s2 : LowD) (b : Nat) : Prop := s.locs.length <= s2.locs.length /\ s2.locs.length <= s.locs.length + b /\ s.words.length <= s2.words.length /\ s2.words.length <= s.words.length + b
theorem LowD.le.trans {s s2 s3 : LowD} {a b : Nat} (h : s.le s2 a) (h2 : s2.le s3 b) : s.le s3 (a + b) := by
 obtain ⟨p1, p2, p3, p4⟩ := h
 obtain ⟨q1, q2, q3, q4⟩ := h2
 exact ⟨by omega, by omega, by omega, by omega⟩
theorem LowD.le.mono {s s2 : LowD} {a b : Nat} (h : s.le s2 a) (h2 : a <= b) : s.le s2 b := ⟨h.1, by have := h.2.1; omega, h.2.2.1, by have := h.2.2.2; omega⟩
theorem LowD.le.refl (s : LowD) : s.le s 0 := ⟨by omega, by omega, by omega, by omega⟩
theorem zrw : fo Tryz.prog 145 0 = some 0 := by kernel_rfl
theorem zrv : fo Tryz.prog 145 1 = some 2 := by kernel_rfl
theorem zru : fo Tryz.prog 145 2 = some 3 := by kernel_rfl
theorem rLow : isR Tryz.prog 145 = some true := by kernel_rfl
theorem sLow : szT Tryz.prog 145 = 7 := by kernel_rfl
theorem zLow : zeroCells Tryz.prog 145 = some [.slice none 0 0, .slice none 0 0, .slice none 0 0, .string ⟨#[]⟩, .int .i64 0, .slice none 0 0, .slice none 0 0] := by kernel_rfl
theorem zrh : xy Tryz.prog 145 = some [(0, 2), (2, 1), (3, 4)] := by kernel_rfl
attribute [go_sem] zrw zrv zru rLow sLow zLow zrh
theorem zjm (l : List VarD) (j : Nat) : (∃ x, (rows (varC true) l).getD j [] = varC true x) \/ (rows (varC true) l).getD j [] = [] := by
 by_cases h : j < l.length
 · exact Or.inl ⟨l[j], zh _ _ h⟩
 · right
   simp [List.getD, List.getElem?_eq_none (show (rows (varC true) l).length <= j by rw [yg]; omega)]
def LetsIn (p : ProgramD) (l : List VarD) (n : Nat) : Prop := ∀ m, Reach p.nodes n m -> (nAt p.nodes m).kind = 13 -> 0 <= yp l (nAt p.nodes m).name
theorem LetsIn.kid {p : ProgramD} {l : List VarD} {n : Nat} (h : LetsIn p l n) (hn : n < p.nodes.length) {k : Int} (hk : k ∈ p.nodes[n].kids) : LetsIn p l k.toNat := fun m hm h13 => h m ((Reach.step (.refl n) hn hk).trans hm) h13
theorem LetsIn.own {p : ProgramD} {l : List VarD} {n : Nat} (hD : Deep p.nodes) (h : LetsIn p l n) (hn : n < p.nodes.length) : ∀ k ∈ p.nodes[n].kids, (nAt p.nodes k).kind = 13 -> 0 <= yp l (nAt p.nodes k).name := fun k hk h13 => by
 obtain ⟨q0, q1, q2⟩ := hD.kid hn k hk
 have := h.kid hn hk k.toNat (.refl _)
 rw [show ((k.toNat : Nat) : Int) = k by omega] at this
 exact this h13
set_option maxHeartbeats 4000000
set_option maxHeartbeats 8000000
theorem zoX {p : ProgramD} (h : xG p = true) : ∀ m, m < p.nodes.length -> cntK p.nodes p.nodes.length m <= 1 := fun m hm => by
 have hG := yh h
 simp only [xG, Bool.and_eq_true] at h
 obtain ⟨_, _, _, _, h4⟩ := h
 have h5 := yn.1 h4 m hm
 unfold zdC at h5
 have h6 := zel hG.deep.nodup m p.nodes.length (Nat.le_refl _)
 have h7 := hG.few
 rw [Bool.or_eq_true] at h5
 rcases h5 with h5 | h5
 · have := eq_of_beq h5; omega
 · have := eq_of_beq h5; omega
section
variable {P : Program} {f : FuncId}
def nilD (d d' : D) : Prop := d' = d \/ (d = .sc (.slice none 0 0) /\ ∃ e, d' = .row false e [])
def nilR (r r' : RV) : Prop := r.1 = r'.1 /\ r.2.length = r'.2.length /\ ∀ (j : Nat) (d d' : D), r.2[j]? = some d -> r'.2[j]? = some d' -> nilD d d'
def nilRs (rs rs' : List RV) : Prop := rs.length = rs'.length /\ ∀ (i : Nat) (r r' : RV), rs[i]? = some r -> rs'[i]? = some r' -> nilR r r'
theorem SoundAt.nilRs {ts : (Nat -> Value) -> List V} {ob0 : List (Nat × Ob)} {post post' : List RV -> St -> Prop} (hs : SoundAt P f ts ob0 post) (h : ∀ rs st, post rs st -> ∃ rs', nilRs rs rs' /\ post' rs' st) : SoundAt P f ts ob0 post' := by
 refine ⟨hs.1, fun uf ub C w gh us h1 h2 h3 h4 h5 h6 => (hs.2 uf ub C w gh us h1 h2 h3 h4 h5 h6).mono (fun e w' he => ?_)⟩
 obtain ⟨vs, rs, st', a', gh', G, rfl, hp, hres, hrep⟩ := he
 obtain ⟨rs', ⟨hn, hr⟩, hp'⟩ := h rs st' hp
 have back : ∀ (i : Nat) (r' : RV), rs'[i]? = some r' -> ∃ r, rs[i]? = some r /\ nilR r r' := fun i r' hi => by
   have hl : i < rs.length := by rw [hn]; exact (List.getElem?_eq_some_iff.1 hi).1
   exact ⟨rs[i], List.getElem?_eq_getElem hl, hr i _ _ (List.getElem?_eq_getElem hl) hi⟩
 have backd : ∀ {r r' : RV} (h : nilR r r') (j : Nat) (d' : D), r'.2[j]? = some d' -> ∃ d, r.2[j]? = some d /\ nilD d d' := fun {r r'} h j d' hj => by
   have hl : j < r.2.length := by rw [h.2.1]; exact (List.getElem?_eq_some_iff.1 hj).1
   exact ⟨r.2[j], List.getElem?_eq_getElem hl, h.2.2 j _ _ (List.getElem?_eq_getElem hl) hj⟩
 have hin : Xd rs' G = Xd rs G := by
   funext k
   apply propext
   constructor
   · rintro ⟨i, j, r', d', hi, hj, hk⟩
     obtain ⟨r, hi2, hrr⟩ := back i r' hi
     obtain ⟨d, hj2, _⟩ := backd hrr j d' hj
     exact ⟨i, j, r, d, hi2, hj2, hk⟩
   · rintro ⟨i, j, r, d, hi, hj, hk⟩
     have hl : i < rs'.length := by rw [<- hn]; exact (List.getElem?_eq_some_iff.1 hi).1
     have hrr := hr i _ _ hi (List.getElem?_eq_getElem hl)
     have hl2 : j < (rs'[i]).2.length := by rw [<- hrr.2.1]; exact (List.getElem?_eq_some_iff.1 hj).1
     exact ⟨i, j, rs'[i], (rs'[i]).2[j], List.getElem?_eq_getElem hl, List.getElem?_eq_getElem hl2, hk⟩
 refine ⟨vs, rs', st', a', gh', G, rfl, hp', ?_, by rw [hin]; exact hrep⟩
 refine ⟨by rw [<- hn]; exact hres.len, fun i r' v hi hv h1 => ?_, fun i r' v hi hv h1 => ?_, fun i r' v hi hv => ?_, hres.c1, fun i r' v j d' hi hv hj => ?_, fun i j i' j' r r' d d' k hi hj hi' hj' h1 h2 => ?_⟩
 · obtain ⟨r, hi2, hrr⟩ := back i r' hi
   exact hres.one i r v hi2 hv (by rw [hrr.1]; exact h1)
 · obtain ⟨r, hi2, hrr⟩ := back i r' hi
   exact hres.agg i r v hi2 hv (by rw [hrr.1]; exact h1)
 · obtain ⟨r, hi2, hrr⟩ := back i r' hi
   rw [hres.sz i r v hi2 hv, hrr.2.1]
 · obtain ⟨r, hi2, hrr⟩ := back i r' hi
   obtain ⟨d, hj2, hd⟩ := backd hrr j d' hj
   have how := hres.ow i r v j d hi2 hv hj2
   rcases hd with rfl | ⟨rfl, e, rfl⟩
   · exact how
   · exact how.nilr
 · obtain ⟨r0, hi2, hrr⟩ := back i r hi
   obtain ⟨d0, hj2, _⟩ := backd hrr j d hj
   obtain ⟨r1, hi3, hrr1⟩ := back i' r' hi'
   obtain ⟨d1, hj3, _⟩ := backd hrr1 j' d' hj'
   exact hres.dis i j i' j' r0 r1 d0 d1 k hi2 hj2 hi3 hj3 h1 h2
end
theorem zme (d : D) : nilD d d := Or.inl rfl
theorem zhu (r : RV) : nilR r r := ⟨rfl, rfl, fun j d d' h1 h2 => by rw [h1] at h2; cases h2; exact zme _⟩
theorem zlk (b : Bool) : nilRs [(true, [.sc (.slice none 0 0), .sc (.slice none 0 0)]), (false, [cB b])] [(true, za false ⟨[], []⟩), (false, [cB b])] := by
 refine ⟨rfl, fun i r r' h1 h2 => ?_⟩
 match i with
 | 0 =>
   simp only [List.getElem?_cons_zero, Option.some.injEq] at h1 h2
   subst h1 h2
   refine ⟨rfl, rfl, fun j d d' g1 g2 => ?_⟩
   match j with
   | 0 => simp [za] at g1 g2; subst g1 g2; exact Or.inr ⟨rfl, 83, rfl⟩
   | 1 => simp [za] at g1 g2; subst g1 g2; exact Or.inr ⟨rfl, 104, rfl⟩
   | j + 2 => simp at g1
 | 1 =>
   simp only [List.getElem?_cons_succ, List.getElem?_cons_zero, Option.some.injEq] at h1 h2
   subst h1 h2
   exact zhu _
 | i + 2 => simp at h1
theorem zbF {P : Program} {fid : FuncId} {gs : List Arg} {g : Bool} {x : ProgramD} (h : zu P fid gs (fun rs st => rs = if g then [(true, za false x), (false, [cB true])] else [(true, [.sc (.slice none 0 0), .sc (.slice none 0 0)]), (false, [cB false])])) :
   zu P fid gs (fun rs st => rs = [(true, za false (if g then x else ⟨[], []⟩)), (false, [cB g])]) := by
 refine SoundAt.nilRs h (fun rs st hr => ⟨_, ?_, rfl⟩)
 rw [hr]
 cases g with
 | true =>
   simp only [if_true]
   exact ⟨rfl, fun i r r' h1 h2 => by rw [h1] at h2; cases h2; exact zhu _⟩
 | false =>
   simp only [Bool.false_eq_true, if_false]
   exact zlk false
theorem zfk {l : List FnD} {i : Nat} (h : i < l.length) : l.drop i = l[i] :: l.drop (i + 1) := List.drop_eq_getElem_cons h
theorem zcL (l : List FnD) (x : FnD) : rows (fnC false) l ++ [[D.sc (.string x.name), .row false 107 (rows (zr false) x.params), .sc (.int .i64 x.res), .sc (.int .i64 x.body), .sc (.int .i64 x.ret)]] = rows (fnC false) (l ++ [x]) := Xp (fnC false) l x
theorem zkI (p : ProgramD) : (Xu p).2.to.length <= 300 := by
 have key : ∀ (l : List FnD) (s : PkS), s.to.length <= 300 -> (xX (pkI p.nodes 10) l s).2.to.length <= 300 := by
   intro l
   induction l with
   | nil => intro s hs; exact hs
   | cons f r ih =>
     intro s hs
     unfold xX
     refine ih _ ?_
     unfold pkFn
     have h1 := XO p.nodes 10 f.body s hs
     split
     · exact XO p.nodes 10 f.ret _ h1
     · exact h1
 exact key p.fns pk0 (by simp [pk0])
theorem zfN (p : ProgramD) (hf : p.fns.length <= 1048576) (hn : p.nodes.length <= 1048576) (hk : ∀ x ∈ p.nodes, x.kids.length <= 1048576) (hpl : ∀ f ∈ p.fns, f.params.length <= 1048576) :
   zu Tryz.prog 150 [.ro (zb p)] (fun rs st => rs = [(true, za false (Ye p)), (false, [cB (XZ p)])]) := by
 unfold Ye
 refine zbF ?_
 have hput := zkz p.nodes hn hk 10 (by omega)
 unfold PutI at hput
 have hmost := fun k s h => XO p.nodes 10 k s h
 have hB : XZ p = !(Xu p).2.bad := rfl
 obtain ⟨R, hR⟩ : ∃ R, Xu p = R := ⟨_, rfl⟩
 rw [hB, hR]
 unfold Xu at hR
 generalize hV : pkI p.nodes 10 = V at hput hmost hR
 have e11 : (11 - ((10 : Nat) : Int)) = 1 := by omega
 simp only [e11] at hput
 refine zm (fn := Tryz.f150) (c := Tryz.f150.body.getD .skip) (res := [.ce 2 36, .tm 3]) (n := 45) zf (by kernel_rfl) (by rfl) (by kernel_rfl) (by rfl) (by rfl) (by simp [zp]) (fun uf ub C hpin hpin2 hfull => ?_)
 simp only [Tryz.f150, Option.getD_some]
 refine Tri.step zf ?_
 simp +decide only [zb, za, pkC, hpin, go_sem, reduceAdd, reduceMul]
 refine Tri.ent ?_ (Ent.frb hfull 1)
 refine Tri.step zf ?_
 simp +decide only [zb, za, pkC, hpin, go_sem, reduceAdd, reduceMul]
 refine Tri.ent ?_ (Ent.nilr 4 1 83)
 refine Tri.step zf ?_
 simp +decide only [zb, za, pkC, hpin, go_sem, reduceAdd, reduceMul]
 refine Tri.ent ?_ (Ent.nilr 5 1 104)
 refine Tri.step zf ?_
 simp +decide only [zb, za, pkC, hpin, go_sem, reduceAdd, reduceMul]
 refine Tri.loop (ι := Nat × List FnD × PkS) (fun q => q.1 <= p.fns.length /\ q.2.1.length = q.1 /\ q.2.2.to.length <= 300 /\ R = (q.2.1 ++ (xX V (p.fns.drop q.1) q.2.2).1, (xX V (p.fns.drop q.1) q.2.2).2))
   (fun q => ⟨45, [(2, .bp 2 0), (4, .bp 4 0), (5, .bp 5 0), (12, .imm 104 (rows (fnC true) p.fns)), (13, vI p.fns.length), (14, vI q.1)], [(2, .box [.sc (.slice none 0 0), .sc (.slice none 0 0)]), (4, .box (pkC p.nodes q.2.2.to q.2.2.bad)), (5, .box [.sc (.slice none 0 0), .row false 104 (rows (fnC false) q.2.1)])]⟩) (fun q => p.fns.length - q.1) (0, [], pk0) ⟨by simp, rfl, by simp [pk0], by simp [<- hR]⟩ ?_ ?_
 · refine Ent.weak ?_ ?_ ?_ ?_ <;> simp +decide [zR, St.nilr, St.swap, subT, subB, zk, zj, zl, St.get, look, vI, vB, vS, cI, cS, cB, zg, za, pkC, roI, rows, pk0]
 · rintro ⟨i, acc, t⟩ ⟨hi, hal, htl, hRe⟩
   simp only at hi hal htl hRe |-
   refine ze zf _ ?_
   by_cases h' : i < p.fns.length
   · have e : ((i : Int) < (p.fns.length : Int)) = True := by simp [h']
     have hx : (rows (fnC true) p.fns).getD i [] = fnC true p.fns[i] := zh _ _ h'
     have hkx := hpl p.fns[i] (List.getElem_mem h')
     rw [zfk h'] at hRe
     unfold xX at hRe
     generalize p.fns[i] = f at hx hkx hRe
     have hcf := zco f hkx
     simp only [fnW] at hcf
     have hc1 := hput f.body t htl
     have ht1 := hmost f.body t htl
     unfold pkFn at hRe
     generalize V f.body t = r1 at hRe hc1 ht1
     obtain ⟨b1, t1⟩ := r1
     simp only at hRe hc1 ht1
     have hc2 := hput f.ret t1 ht1
     have ht2 := hmost f.ret t1 ht1
     generalize V f.ret t1 = r2 at hRe hc2 ht2
     obtain ⟨b2, t2⟩ := r2
     simp only at hRe hc2 ht2
     simp only [pkC, cI] at hc1 hc2
     have hb1 : i + 1 <= 140737488355328 := by omega
     have hb2 : (i + 1) * 64 <= 140737488355328 := by omega
     simp +decide only [e, h', hx, fnC, Int.natCast_nonneg, vB, vI, zb, za, pkC, hpin, go_sem, reduceAdd, reduceMul]
     refine zd hcf hpin ?_
     simp +decide only [fnC, zb, za, pkC, hpin, go_sem, reduceAdd, reduceMul]
     refine yJ hc1 hpin hfull [(2000, 4)] [] [(2000, 4)] ⟨rfl, rfl, rfl, rfl⟩ (fun uf => ?_) ?_
     · simp +decide only [zb, za, pkC, hpin, go_sem, reduceAdd, reduceMul]
     simp +decide only [fnC, zb, za, pkC, hpin, go_sem, reduceAdd, reduceMul]
     by_cases h0 : 0 <= f.ret
     · have c0 : (0 <= f.ret) = True := eq_true h0
       rw [if_pos (by simpa using h0)] at hRe
       have hsn := zcL acc ⟨f.name, f.params, f.res, b1, b2⟩
       have hal2 : (acc ++ [(⟨f.name, f.params, f.res, b1, b2⟩ : FnD)]).length = i + 1 := by simp [hal]
       simp +decide only [c0, ge_iff_le, fnC, zb, za, pkC, hpin, go_sem, reduceAdd, reduceMul]
       refine yJ hc2 hpin hfull [(2000, 4)] [] [(2000, 4)] ⟨rfl, rfl, rfl, rfl⟩ (fun uf => ?_) ?_
       · simp +decide only [zb, za, pkC, hpin, go_sem, reduceAdd, reduceMul]
       simp +decide only [hal, hal2, hb1, hb2, hsn, fnC, zb, za, pkC, hpin, go_sem, reduceAdd, reduceMul]
       refine ⟨(i + 1, acc ++ [⟨f.name, f.params, f.res, b1, b2⟩], t2), ⟨h', by simp [hal], ht2, by rw [hRe]; simp⟩, by show p.fns.length - (i + 1) < p.fns.length - i; omega, Ent.weak ?_ ?_ ?_ ?_⟩
       all_goals simp +decide [zR, St.nilr, St.swap, subT, subB, zk, zj, zl, St.get, look, vI, vB, vS, cI, cS, cB, zg, za, pkC, roI, hsn, w64s (n := p.fns.length) h' (by omega)]
     · have c0 : (0 <= f.ret) = False := eq_false h0
       rw [if_neg (by simpa using h0)] at hRe
       have hsn := zcL acc ⟨f.name, f.params, f.res, b1, f.ret⟩
       have hal2 : (acc ++ [(⟨f.name, f.params, f.res, b1, f.ret⟩ : FnD)]).length = i + 1 := by simp [hal]
       simp +decide only [c0, ge_iff_le, hal, hal2, hb1, hb2, hsn, fnC, zb, za, pkC, hpin, go_sem, reduceAdd, reduceMul]
       refine ⟨(i + 1, acc ++ [⟨f.name, f.params, f.res, b1, f.ret⟩], t1), ⟨h', by simp [hal], ht1, by rw [hRe]; simp⟩, by show p.fns.length - (i + 1) < p.fns.length - i; omega, Ent.weak ?_ ?_ ?_ ?_⟩
       all_goals simp +decide [zR, St.nilr, St.swap, subT, subB, zk, zj, zl, St.get, look, vI, vB, vS, cI, cS, cB, zg, za, pkC, roI, hsn, w64s (n := p.fns.length) h' (by omega)]
   · have hil : i = p.fns.length := by omega
     subst hil
     have e : ((p.fns.length : Int) < (p.fns.length : Int)) = False := by simp
     rw [List.drop_length] at hRe
     simp only [xX, List.append_nil] at hRe
     subst hRe
     obtain ⟨tt, tb⟩ := t
     simp +decide only [e, vB, vI, zb, za, pkC, hpin, go_sem, reduceAdd, reduceMul]
     refine Tri.step zf ?_
     cases tb with
     | true =>
       simp +decide only [zb, za, pkC, hpin, go_sem, reduceAdd, reduceMul]
     | false =>
       simp +decide only [zb, za, pkC, hpin, go_sem, reduceAdd, reduceMul]
       refine ze zf _ ?_
       simp +decide only [zb, za, pkC, hpin, go_sem, reduceAdd, reduceMul]
theorem zfM (p : ProgramD) (hf : p.fns.length <= 1048576) (hn : p.nodes.length <= 1048576) (hk : ∀ x ∈ p.nodes, x.kids.length <= 1048576) (hpl : ∀ f ∈ p.fns, f.params.length <= 1048576) :
   zu Tryz.prog 139 [.ro (zb p)] (fun rs st => rs = [(true, za false (Ye p)), (false, [cB (XZ p)])]) := by
 unfold Ye
 refine zbF ?_
 have hput := zky p.nodes hn hk 10 (by omega)
 unfold PutR at hput
 have hmost := fun k s h => zlU p.nodes 10 k s 320 (by omega) h
 obtain ⟨ha1, ha2⟩ := zkG p
 obtain ⟨R, hR⟩ : ∃ R, zkH p = R := ⟨_, rfl⟩
 rw [hR] at ha1 ha2
 unfold zkH at hR
 generalize hV : pkR p.nodes 10 = V at hput hmost hR
 have e11 : (11 - ((10 : Nat) : Int)) = 1 := by omega
 simp only [e11] at hput
 refine zm (fn := Tryz.f139) (c := Tryz.f139.body.getD .skip) (res := [.ce 2 36, .tm 3]) (n := 68) zf (by kernel_rfl) (by rfl) (by kernel_rfl) (by rfl) (by rfl) (by simp [zp]) (fun uf ub C hpin hpin2 hfull => ?_)
 simp only [Tryz.f139, Option.getD_some]
 refine Tri.step zf ?_
 simp +decide only [zb, za, pkC, hpin, go_sem, reduceAdd, reduceMul]
 refine Tri.ent ?_ (Ent.frb hfull 1)
 refine Tri.step zf ?_
 simp +decide only [zb, za, pkC, hpin, go_sem, reduceAdd, reduceMul]
 refine Tri.ent ?_ (Ent.nilr 11 1 83)
 refine Tri.step zf ?_
 simp +decide only [zb, za, pkC, hpin, go_sem, reduceAdd, reduceMul]
 refine Tri.ent ?_ (Ent.nilr 5 1 104)
 refine Tri.step zf ?_
 simp +decide only [zb, za, pkC, hpin, go_sem, reduceAdd, reduceMul]
 refine Tri.loop (ι := Nat × List FnD × PkS) (fun q => q.1 <= p.fns.length /\ q.2.1.length = q.1 /\ q.2.2.to.length <= 320 /\ R = (q.2.1 ++ (xX V (p.fns.drop q.1) q.2.2).1, (xX V (p.fns.drop q.1) q.2.2).2))
   (fun q => ⟨68, [(1, .ip (za true p) 0), (2, .bp 2 0), (4, .bp 11 0), (5, .bp 5 0), (6, vI q.1)], [(2, .box [.sc (.slice none 0 0), .sc (.slice none 0 0)]), (11, .box (pkC p.nodes q.2.2.to q.2.2.bad)), (5, .box [.sc (.slice none 0 0), .row false 104 (rows (fnC false) q.2.1)])]⟩) (fun q => p.fns.length - q.1) (0, [], pk0) ⟨by simp, rfl, by simp [pk0], by simp [<- hR]⟩ ?_ ?_
 · refine Ent.weak ?_ ?_ ?_ ?_ <;> simp +decide [zR, St.nilr, St.swap, subT, subB, zk, zj, zl, St.get, look, vI, vB, vS, cI, cS, cB, zg, za, pkC, roI, rows, pk0]
 · rintro ⟨i, acc, t⟩ ⟨hi, hal, htl, hRe⟩
   simp only at hi hal htl hRe |-
   refine ze zf _ ?_
   by_cases h' : i < p.fns.length
   · have e : ((i : Int) < (p.fns.length : Int)) = True := by simp [h']
     have hx : (rows (fnC true) p.fns).getD i [] = fnC true p.fns[i] := zh _ _ h'
     have hkx := hpl p.fns[i] (List.getElem_mem h')
     rw [zfk h'] at hRe
     unfold xX at hRe
     generalize p.fns[i] = f at hx hkx hRe
     have hfr := zau f.params
     have htf := zdt f.params
     have hb3 : f.params.length <= 140737488355328 := by omega
     have hb4 : f.params.length * 24 <= 140737488355328 := by omega
     have hc1 := hput f.body t (by omega)
     have ht1 := hmost f.body t htl
     unfold pkFn at hRe
     generalize V f.body t = r1 at hRe hc1 ht1
     obtain ⟨b1, t1⟩ := r1
     simp only at hRe hc1 ht1
     have hc2 := hput f.ret t1 (by omega)
     have ht2 := hmost f.ret t1 ht1
     generalize V f.ret t1 = r2 at hRe hc2 ht2
     obtain ⟨b2, t2⟩ := r2
     simp only at hRe hc2 ht2
     simp only [pkC, cI] at hc1 hc2
     have hb1 : i + 1 <= 140737488355328 := by omega
     have hb2 : (i + 1) * 64 <= 140737488355328 := by omega
     simp +decide only [e, h', hx, hfr, hb3, hb4, fnC, Int.natCast_nonneg, vB, vI, zb, za, pkC, hpin, go_sem, reduceAdd, reduceMul]
     refine yJ hc1 hpin hfull [(2000, 11)] [] [(2000, 11)] ⟨rfl, rfl, rfl, rfl⟩ (fun uf => ?_) ?_
     · simp +decide only [zb, za, pkC, hpin, go_sem, reduceAdd, reduceMul]
     simp +decide only [fnC, zb, za, pkC, hpin, go_sem, reduceAdd, reduceMul]
     by_cases h0 : 0 <= f.ret
     · have c0 : (0 <= f.ret) = True := eq_true h0
       rw [if_pos (by simpa using h0)] at hRe
       have hsn := zcL acc ⟨f.name, f.params, f.res, b1, b2⟩
       simp only [<- htf] at hsn
       have hal2 : (acc ++ [(⟨f.name, f.params, f.res, b1, b2⟩ : FnD)]).length = i + 1 := by simp [hal]
       simp +decide only [c0, ge_iff_le, fnC, zb, za, pkC, hpin, go_sem, reduceAdd, reduceMul]
       refine yJ hc2 hpin hfull [(2000, 11)] [] [(2000, 11)] ⟨rfl, rfl, rfl, rfl⟩ (fun uf => ?_) ?_
       · simp +decide only [zb, za, pkC, hpin, go_sem, reduceAdd, reduceMul]
       simp +decide only [hal, hal2, hb1, hb2, hsn, fnC, zb, za, pkC, hpin, go_sem, reduceAdd, reduceMul]
       refine ⟨(i + 1, acc ++ [⟨f.name, f.params, f.res, b1, b2⟩], t2), ⟨h', by simp [hal], ht2, by rw [hRe]; simp⟩, by show p.fns.length - (i + 1) < p.fns.length - i; omega, Ent.weak ?_ ?_ ?_ ?_⟩
       all_goals simp +decide [zR, St.nilr, St.swap, subT, subB, zk, zj, zl, St.get, look, vI, vB, vS, cI, cS, cB, zg, za, pkC, roI, hsn, w64s (n := p.fns.length) h' (by omega)]
     · have c0 : (0 <= f.ret) = False := eq_false h0
       rw [if_neg (by simpa using h0)] at hRe
       have hsn := zcL acc ⟨f.name, f.params, f.res, b1, f.ret⟩
       simp only [<- htf] at hsn
       have hal2 : (acc ++ [(⟨f.name, f.params, f.res, b1, f.ret⟩ : FnD)]).length = i + 1 := by simp [hal]
       simp +decide only [c0, ge_iff_le, hal, hal2, hb1, hb2, hsn, fnC, zb, za, pkC, hpin, go_sem, reduceAdd, reduceMul]
       refine ⟨(i + 1, acc ++ [⟨f.name, f.params, f.res, b1, f.ret⟩], t1), ⟨h', by simp [hal], ht1, by rw [hRe]; simp⟩, by show p.fns.length - (i + 1) < p.fns.length - i; omega, Ent.weak ?_ ?_ ?_ ?_⟩
       all_goals simp +decide [zR, St.nilr, St.swap, subT, subB, zk, zj, zl, St.get, look, vI, vB, vS, cI, cS, cB, zg, za, pkC, roI, hsn, w64s (n := p.fns.length) h' (by omega)]
   · have hil : i = p.fns.length := by omega
     subst hil
     have e : ((p.fns.length : Int) < (p.fns.length : Int)) = False := by simp
     rw [List.drop_length] at hRe
     simp only [xX, List.append_nil] at hRe
     subst hRe
     obtain ⟨tt, tb⟩ := t
     simp only at ha1 ha2
     simp +decide only [e, vB, vI, zb, za, pkC, hpin, go_sem, reduceAdd, reduceMul]
     refine Tri.step zf ?_
     cases tb with
     | true =>
       have hB : XZ p = false := by rw [<- ha1]; simp
       simp +decide only [hB, zb, za, pkC, hpin, go_sem, reduceAdd, reduceMul]
     | false =>
       by_cases g : 300 < tt.length
       · have g1 : ((300 : Int) < (tt.length : Int)) = True := eq_true (by omega)
         have hB : XZ p = false := by rw [<- ha1]; simp [g]
         simp +decide only [g1, gt_iff_lt, hB, zb, za, pkC, hpin, go_sem, reduceAdd, reduceMul]
       · have g1 : ((300 : Int) < (tt.length : Int)) = False := eq_false (by omega)
         have hB : XZ p = true := by rw [<- ha1]; simp; omega
         have hq := ha2 hB
         have q1 : (Xu p).2.to = tt := by rw [<- hq]
         have q2 : (Xu p).1 = acc := by rw [<- hq]
         simp +decide only [g1, gt_iff_lt, hB, q1, q2, zb, za, pkC, hpin, go_sem, reduceAdd, reduceMul]
         refine ze zf _ ?_
         simp +decide only [zb, za, pkC, hpin, go_sem, reduceAdd, reduceMul]
noncomputable def zbt (q : ProgramD) : Bool := XZ q && zW (Ye q)
noncomputable def zgk (q : ProgramD) : Int := if zbt q then 0 else 1
noncomputable def finP (p q : ProgramD) : ProgramD := if zbt q then Ye q else p
theorem zdy (q : ProgramD) (hf : q.fns.length <= 1048576) (hk : ∀ x ∈ q.nodes, x.kids.length <= 1048576) (hpl : ∀ f ∈ q.fns, f.params.length <= 1048576) : (Ye q).nodes.length <= 300 /\ (Ye q).fns.length <= 1048576 /\ (∀ x ∈ (Ye q).nodes, x.kids.length <= 1048576) /\ (∀ f ∈ (Ye q).fns, f.params.length <= 1048576) := by
 unfold Ye
 split
 case isFalse => exact ⟨by simp, by simp, fun x hx => by simp at hx, fun x hx => by simp at hx⟩
 have hto : ∀ (d : Nat) (k : Int) (s : PkS), (∀ x ∈ s.to, x.kids.length <= 1048576) -> ∀ x ∈ (pkI q.nodes d k s).2.to, x.kids.length <= 1048576 := by
   intro d
   induction d with
   | zero => intro k s hs x hx; exact hs x hx
   | succ d ih =>
     intro k s hs
     have hr : ∀ (l : List Int) (s : PkS), (∀ x ∈ s.to, x.kids.length <= 1048576) -> ∀ x ∈ (runB (pkI q.nodes d) l s).2.to, x.kids.length <= 1048576 := by
       intro l
       induction l with
       | nil => intro s hs x hx; exact hs x hx
       | cons k r ihr =>
         intro s hs
         unfold runB
         split
         · exact hs
         · exact ihr _ (ih k s hs)
     have h1 := hr (nAt q.nodes k).kids s hs
     have h2 := zdg (pkI q.nodes d) (nAt q.nodes k).kids s
     have h3 : (nAt q.nodes k).kids.length <= 1048576 := by
       unfold nAt
       rw [List.getD_eq_getElem?_getD]
       cases hq : q.nodes[k.toNat]? with
       | none => simp [nd0]
       | some y => exact hk y (List.mem_of_getElem? hq)
     unfold pkI
     split
     · exact hs
     split
     · exact h1
     split
     · exact h1
     · intro x hx
       unfold zas at hx
       simp only [List.mem_append, List.mem_singleton] at hx
       rcases hx with hx | rfl
       · exact h1 x hx
       · show (runB (pkI q.nodes d) (nAt q.nodes k).kids s).1.length <= _; omega
 have hfs : ∀ (l : List FnD) (s : PkS), (∀ x ∈ s.to, x.kids.length <= 1048576) -> (∀ f ∈ l, f.params.length <= 1048576) -> (xX (pkI q.nodes 10) l s).1.length = l.length /\ (∀ x ∈ (xX (pkI q.nodes 10) l s).2.to, x.kids.length <= 1048576) /\ ∀ f ∈ (xX (pkI q.nodes 10) l s).1, f.params.length <= 1048576 := by
   intro l
   induction l with
   | nil => intro s hs hl; exact ⟨rfl, hs, fun f hf => by simp [xX] at hf⟩
   | cons f r ih =>
     intro s hs hl
     have h1 : ∀ x ∈ (pkFn (pkI q.nodes 10) f s).2.to, x.kids.length <= 1048576 := by
       unfold pkFn
       split
       · exact hto 10 _ _ (hto 10 _ _ hs)
       · exact hto 10 _ _ hs
     have h2 : (pkFn (pkI q.nodes 10) f s).1.params = f.params := by unfold pkFn; split <;> rfl
     obtain ⟨g1, g2, g3⟩ := ih _ h1 (fun x hx => hl x (List.mem_cons_of_mem _ hx))
     unfold xX
     refine ⟨by simp [g1], g2, fun x hx => ?_⟩
     rcases List.mem_cons.1 hx with rfl | hx
     · rw [h2]; exact hl f (List.mem_cons_self ..)
     · exact g3 x hx
 obtain ⟨g1, g2, g3⟩ := hfs q.fns pk0 (fun x hx => by simp [pk0] at hx) hpl
 refine ⟨zkI q, ?_, g2, g3⟩
 show (Xu q).1.length <= _
 unfold Xu
 omega
theorem zeK (p q : ProgramD) (hf : p.fns.length <= 1048576) (hn : p.nodes.length <= 1048576) (hk : ∀ x ∈ p.nodes, x.kids.length <= 1048576) (hpl : ∀ f ∈ p.fns, f.params.length <= 1048576) (hf2 : q.fns.length <= 1048576) (hn2 : q.nodes.length <= 1048576) (hk2 : ∀ x ∈ q.nodes, x.kids.length <= 1048576) (hpl2 : ∀ f ∈ q.fns, f.params.length <= 1048576) :
   zu Tryz.prog 73 [.ro (zb p), .ro (zb q)] (fun rs st => rs = [(true, za false (finP p q)), (false, [cI (zgk q)])]) := by
 have hpk := zfN q hf2 hn2 hk2 hpl2
 obtain ⟨g1, g2, g3, g4⟩ := zdy q hf2 hk2 hpl2
 have htr := Yr (Ye q) g2 (by omega) g3 g4
 have hcp := YD p hf hn hk hpl
 unfold finP zgk zbt
 generalize Ye q = Q at hpk htr |-
 simp only [zb, za] at hpk htr hcp
 refine zm (fn := Tryz.f73) (c := Tryz.f73.body.getD .skip) (res := [.ce 4 36, .tm 5]) (n := 23) zf (by kernel_rfl) (by rfl) (by kernel_rfl) (by rfl) (by rfl) (by simp [zp]) (fun uf ub C hpin hpin2 hfull => ?_)
 simp only [Tryz.f73, Option.getD_some]
 refine Tri.step zf ?_
 simp +decide only [zb, za, pkC, hpin, go_sem, reduceAdd, reduceMul]
 refine Tri.ent ?_ (Ent.frb hfull 2)
 refine Tri.ent ?_ (Ent.frb hfull 3)
 refine Tri.step zf ?_
 simp +decide only [zb, za, pkC, hpin, go_sem, reduceAdd, reduceMul]
 refine zd hpk hpin ?_
 simp +decide only [zb, za, pkC, hpin, go_sem, reduceAdd, reduceMul]
 refine Tri.step zf ?_
 cases hB : XZ q with
 | false =>
   simp +decide only [zb, za, pkC, hpin, go_sem, reduceAdd, reduceMul]
   refine zd hcp hpin ?_
   simp +decide only [zb, za, pkC, hpin, go_sem, reduceAdd, reduceMul]
 | true =>
   simp +decide only [zb, za, pkC, hpin, go_sem, reduceAdd, reduceMul]
   refine zd htr hpin ?_
   cases hT : zW Q with
   | false =>
     simp +decide only [zb, za, pkC, hpin, go_sem, reduceAdd, reduceMul]
     refine zd hcp hpin ?_
     simp +decide only [zb, za, pkC, hpin, go_sem, reduceAdd, reduceMul]
   | true =>
     simp +decide only [zb, za, pkC, hpin, go_sem, reduceAdd, reduceMul]
     refine ze zf _ ?_
     simp +decide only [zb, za, pkC, hpin, go_sem, reduceAdd, reduceMul]
theorem zdO (q : ProgramD) (hf2 : q.fns.length <= 1048576) (hn2 : q.nodes.length <= 1048576) (hk2 : ∀ x ∈ q.nodes, x.kids.length <= 1048576) (hpl2 : ∀ f ∈ q.fns, f.params.length <= 1048576) :
   zu Tryz.prog 61 [.ro (zb q)] (fun rs st => rs = [(true, za false (if zbt q then Ye q else ⟨[], []⟩)), (false, [cB (zbt q)])]) := by
 refine zbF ?_
 have hpk := zfM q hf2 hn2 hk2 hpl2
 obtain ⟨g1, g2, g3, g4⟩ := zdy q hf2 hk2 hpl2
 have htr := Yq (Ye q) g2 (by omega) g3 g4
 unfold zbt
 generalize Ye q = Q at hpk htr |-
 simp only [zb, za] at hpk htr
 refine zm (fn := Tryz.f61) (c := Tryz.f61.body.getD .skip) (res := [.ce 2 36, .tm 3]) (n := 20) zf (by kernel_rfl) (by rfl) (by kernel_rfl) (by rfl) (by rfl) (by simp [zp]) (fun uf ub C hpin hpin2 hfull => ?_)
 simp only [Tryz.f61, Option.getD_some]
 refine Tri.step zf ?_
 simp +decide only [zb, za, pkC, hpin, go_sem, reduceAdd, reduceMul]
 refine Tri.ent ?_ (Ent.frb hfull 1)
 refine Tri.step zf ?_
 simp +decide only [zb, za, pkC, hpin, go_sem, reduceAdd, reduceMul]
 refine zd hpk hpin ?_
 simp +decide only [zb, za, pkC, hpin, go_sem, reduceAdd, reduceMul]
 refine Tri.step zf ?_
 cases hB : XZ q with
 | false =>
   simp +decide only [zb, za, pkC, hpin, go_sem, reduceAdd, reduceMul]
 | true =>
   simp +decide only [zb, za, pkC, hpin, go_sem, reduceAdd, reduceMul]
   refine zd htr hpin ?_
   cases hT : zW Q with
   | false => simp +decide only [zb, za, pkC, hpin, go_sem, reduceAdd, reduceMul]
   | true =>
     simp +decide only [zb, za, pkC, hpin, go_sem, reduceAdd, reduceMul]
     refine ze zf _ ?_
     simp +decide only [zb, za, pkC, hpin, go_sem, reduceAdd, reduceMul]
def isSl : Value -> Prop
 | .slice _ _ _ => True
 | _ => False
def zmq : Value -> Prop
 | .int _ _ => True
 | _ => False
def zmr : Option D -> Prop
 | some (.sc (.int _ _)) => True
 | _ => False
def zgs (P : Program) (st : St) (t : TypeId) (pv vv : V) (K : St -> Prop) : Prop := match pv, vv with
 | .rp o p i j, .sc c => match look st.ob o with
   | some x => match subO x p with
     | some (.row false e es) => i < es.length /\ j + 1 <= szT P e /\ szT P t = 1 /\ zmr (cellAt es i j) /\ zmq c /\ ev (b := ⟨K⟩) { st with ob := (o, setO x p (.row false e (zO es i j (.sc c)))) :: drop st.ob o }
     | _ => False
   | none => False
 | _, _ => False
def zhZ (P : Program) (C : Cx) (ops : Array Oper) : List Oper -> St -> (St -> Prop) -> Prop
 | [], st, K => K st
 | o :: r, st, K => match o.op, o.dst, o.guard with
   | .store t x y, none, none => (st.ev x).ok /\ (st.ev y).ok /\ zgs P st t (st.ev x).str (st.ev y).str (fun st' => zhZ P C ops r st' K)
   | _, _, _ => Ze st o /\ zia P C ops st o (fun st' => zhZ P C ops r st' K)
section
variable {P : Program} {w w1 : World} {C : Cx} {X : Nat -> Prop} {gh gh' : Gh} {st st' : St} {a : Act} {v : V} {u : Value} {ob ob' : List (Nat × Ob)} {S : Nat -> Prop} {K : St -> Prop}
theorem Nav.head {d : D} {y : Value} {p : List (Nat × Nat)} {d2 : D} {v2 : Value} (h : Nav P w d y p d2 v2) (hs : isSl v2) : isSl y := by
 cases h with
 | nil => exact hs
 | cons hc hw hn => trivial
theorem Nav.moveS (Hw : ∀ b y, w.cell? b = some y -> isSl y -> w1.cell? b = some y) {d : D} {y : Value} {p : List (Nat × Nat)} {d2 : D} {v2 : Value} (h : Nav P w d y p d2 v2) (hs : isSl v2) : Nav P w1 d y p d2 v2 := by
 induction h with
 | nil => exact .nil
 | cons hc hw hn ih => exact .cons hc (Hw _ _ hw (hn.head hs)) (ih hs)
theorem Nav.keep (Hw : ∀ b y, w.cell? b = some y -> isSl y -> w1.cell? b = some y) {d : D} {y : Value} {p : List (Nat × Nat)} {d2 : D} {v2 : Value} (h : Nav P w d y p d2 v2) (hs : isSl v2) :
   ∀ {q : List (Nat × Nat)} {e : TypeId} {es : List (List D)} {i j : Nat} {c0 c : Value}, subD d q = some (.row false e es) -> cellAt es i j = some (.sc c0) -> ∀ {e' : TypeId} {es' : List (List D)}, d2 = .row false e' es' ->
     ∃ es'', Nav P w1 (setD d q (.row false e (zO es i j (.sc c)))) y p (.row false e' es'') v2 /\ es''.length = es'.length := by
 induction h with
 | @nil d y =>
   intro q e es i j c0 c hq hc e' es' hd
   subst hd
   cases q with
   | nil =>
     simp only [subD, Option.some.injEq, D.row.injEq, true_and] at hq
     obtain ⟨rfl, rfl⟩ := hq
     exact ⟨_, .nil, by simp⟩
   | cons ij q => exact ⟨_, .nil, by simp⟩
 | @cons e0 es0 ad l c1 i1 j1 d1 d2 v1 v2 p hc0 hw hn ih =>
   intro q e es i j c0 c hq hc e' es' hd
   have hw1 := Hw _ _ hw (hn.head hs)
   cases q with
   | nil =>
     simp only [subD, Option.some.injEq, D.row.injEq, true_and] at hq
     obtain ⟨rfl, rfl⟩ := hq
     simp only [setD]
     by_cases he : i = i1 /\ j = j1
     · obtain ⟨rfl, rfl⟩ := he
       rw [hc] at hc0
       cases hc0
       subst hd
       cases hn
     · refine ⟨es', .cons (by rw [yc hc, if_neg he]; exact hc0) hw1 ?_, rfl⟩
       subst hd
       exact hn.moveS Hw hs
   | cons ij q =>
     obtain ⟨a1, b1⟩ := ij
     simp only [subD, Option.bind_eq_some_iff] at hq
     obtain ⟨dq, hdq, hq⟩ := hq
     simp only [setD]
     by_cases he : a1 = i1 /\ b1 = j1
     · obtain ⟨rfl, rfl⟩ := he
       rw [hdq] at hc0
       cases hc0
       obtain ⟨es'', g1, g2⟩ := ih hs (c := c) hq hc hd
       refine ⟨es'', .cons (by rw [yc hdq, if_pos ⟨rfl, rfl⟩, hdq]) hw1 ?_, g2⟩
       exact g1
     · refine ⟨es', .cons (by rw [yc hdq, if_neg he]; exact hc0) hw1 ?_, rfl⟩
       subst hd
       exact hn.moveS Hw hs
theorem NavO.keep (Hw : ∀ b y, w.cell? b = some y -> isSl y -> w1.cell? b = some y) {o : Nat} {x : Ob} {p : List (Nat × Nat)} {e' : TypeId} {es' : List (List D)} {v2 : Value} (h : NavO P w gh o x p (.row false e' es') v2) (hs : isSl v2) {q : List (Nat × Nat)} {e : TypeId} {es : List (List D)} {i j : Nat} {c0 c : Value} (hq : subO x q = some (.row false e es)) (hc : cellAt es i j = some (.sc c0)) :
   ∃ es'', NavO P w1 gh o (setO x q (.row false e (zO es i j (.sc c)))) p (.row false e' es'') v2 /\ es''.length = es'.length := by
 cases x with
 | row e0 es0 =>
   simp only [NavO] at h
   obtain ⟨es'', g1, g2⟩ := h.keep Hw hs (c := c) (show subD (.row false e0 es0) q = _ from hq) hc rfl
   refine ⟨es'', ?_, g2⟩
   cases q with
   | nil =>
     simp only [subO, subD, Option.some.injEq, D.row.injEq, true_and] at hq
     obtain ⟨rfl, rfl⟩ := hq
     exact g1
   | cons ij q => exact g1
 | box cs =>
   cases p with
   | nil => exact h.elim
   | cons a1 p =>
     obtain ⟨ai, aj⟩ := a1
     obtain ⟨d1, v1, h1, h2, h3⟩ := h
     cases q with
     | nil => simp [subO] at hq
     | cons b1 q =>
       obtain ⟨bi, bj⟩ := b1
       simp only [subO, Option.bind_eq_some_iff] at hq
       obtain ⟨dq, hdq, hq⟩ := hq
       have hw1 := Hw _ _ h2 (h3.head hs)
       have hbl := (List.getElem?_eq_some_iff.1 hdq).1
       have e0 : cs.getD bj .dead = dq := by simp [List.getD, hdq]
       simp only [setO, e0]
       by_cases he : bj = aj
       · subst he
         rw [hdq] at h1
         cases h1
         obtain ⟨es'', g1, g2⟩ := h3.keep Hw hs (c := c) hq hc rfl
         exact ⟨es'', ⟨_, v1, List.getElem?_set_self hbl, hw1, g1⟩, g2⟩
       · exact ⟨es', ⟨d1, v1, by rw [List.getElem?_set_ne he]; exact h1, hw1, h3.moveS Hw hs⟩, rfl⟩
theorem VR.keep {o : Nat} {x x' : Ob} {F : Nat -> Prop} (h : VR P w gh ob v u) (ho : look ob o = some x) (hob' : ∀ o', look ob' o' = if o' = o then some x' else look ob o')
   (hl : ∀ cs, x = .box cs -> ∃ cs', x' = .box cs') (hn : ∀ p e es v2, NavO P w gh o x p (.row false e es) v2 -> isSl v2 -> ∃ es', NavO P w1 gh o x' p (.row false e es') v2 /\ es'.length = es.length)
   (hob : ∀ o y, look ob o = some y -> ObR P w gh o y) (hF : ∀ o' y k, o' ≠ o -> look ob o' = some y -> gh.F o' k -> w1.heap[k]? = w.heap[k]?) (hS : ∀ k, gh.S k -> w1.heap[k]? = w.heap[k]?) :
   VR P w1 (gh.upd o (gh.hv o) (gh.bb o) (gh.bo o) F) ob' v u := by
 obtain ⟨g1, g2, g3⟩ := gh.upd_self o F
 induction h with
 | dead => exact .dead
 | und => exact .und
 | sc h => exact .sc h
 | nil => exact .nil
 | imm h => exact .imm (h.move hS)
 | @ref o' n p y e es A c hx hnv hle =>
   by_cases e1 : o' = o
   · subst e1
     rw [ho] at hx; cases hx
     obtain ⟨es', n1, n2⟩ := hn p e es _ hnv trivial
     refine VR.ref (e := e) (es := es') (A := A) (c := c) (by rw [hob', if_pos rfl]) ?_ (by omega)
     rw [n2]
     exact n1.ghc g1 g2 g3
   · exact .ref (by rw [hob', if_neg e1]; exact hx) (((hob o' y hx).navO hnv (fun k hk => hF o' y k e1 hx hk)).ghc g1 g2 g3) hle
 | @bp o' j cs hx =>
   by_cases e1 : o' = o
   · subst e1
     rw [ho] at hx; cases hx
     obtain ⟨cs', rfl⟩ := hl cs rfl
     have := VR.bp (P := P) (w := w1) (gh := gh.upd o' (gh.hv o') (gh.bb o') (gh.bo o') F) (ob := ob') (o := o') (j := j) (cs := cs') (by rw [hob', if_pos rfl])
     rwa [g2, g3] at this
   · have := VR.bp (P := P) (w := w1) (gh := gh.upd o (gh.hv o) (gh.bb o) (gh.bo o) F) (ob := ob') (o := o') (j := j) (cs := cs) (by rw [hob', if_neg e1]; exact hx)
     rwa [g2, g3] at this
 | @rp o' i j p y e es ad c hx hnv =>
   by_cases e1 : o' = o
   · subst e1
     rw [ho] at hx; cases hx
     obtain ⟨es', n1, n2⟩ := hn p e es _ hnv trivial
     refine VR.rp (e := e) (es := es') (ad := ad) (c := c) (by rw [hob', if_pos rfl]) ?_
     rw [n2]
     exact n1.ghc g1 g2 g3
   · exact .rp (by rw [hob', if_neg e1]; exact hx) (((hob o' y hx).navO hnv (fun k hk => hF o' y k e1 hx hk)).ghc g1 g2 g3)
 | ip U hs h => exact .ip U hs fun q d hd => ⟨(Yd (x := ⟨_, _, none⟩) (hS _ hs)).trans (h q d hd).1, (h q d hd).2.move hS⟩
 | clo h => exact .clo (h.move hS (fun _ hk => hk))
 | agg hl' h1 h ih => exact .agg hl' h1 ih
 | tup hl' h ih => exact .tup hl' ih
 | cond ht hf ih => exact .cond ih hf
theorem zgJ (h : Rep P C No st a w gh) {o : Oper} {t : TypeId} {x y : Operand} {K : St -> Prop} (ho : o.op = .store t x y) (hdst : o.dst = none) (hox : (st.ev x).ok) (hoy : (st.ev y).ok)
   (hk : zgs P st t (st.ev x).str (st.ev y).str K) : Comes1 P C o a w K := by
 unfold zgs at hk
 split at hk
 case h_2 => exact hk.elim
 rename_i o1 p i j c hpv hvv
 split at hk
 case h_2 => exact hk.elim
 rename_i x1 hx1
 split at hk
 case h_2 => exact hk.elim
 rename_i e es hsub
 obtain ⟨hi, hj, ht1, hD, hV, hk⟩ := hk
 have hp := h.use x hox
 have hy := h.use y hoy
 rw [hpv] at hp
 rw [hvv] at hy
 have hye : a.eval y = c := hy.sc_inv
 obtain ⟨v', F', n1, n2, n3, n4, n5⟩ := (h.obs o1 _ hx1).up hsub
 have hpv' : ∃ ad cc, v' = .slice (some ad) es.length cc /\ a.eval x = .pointer (some ⟨ad.block, ad.off + (i * szT P e + j), none⟩) := by
   generalize a.eval x = z at hp
   cases hp with
   | rp hx hn =>
     rw [hx1] at hx; cases hx
     obtain ⟨e1, e2⟩ := hn.fn n1
     cases e1
     exact ⟨_, _, e2.symm, rfl⟩
 obtain ⟨ad, cc, rfl, hpv'⟩ := hpv'
 obtain ⟨k0, m0, hce⟩ : ∃ k0 m0, cellAt es i j = some (.sc (.int k0 m0)) := by
   unfold zmr at hD
   split at hD
   · rename_i k0 m0 hh; exact ⟨k0, m0, hh⟩
   · exact hD.elim
 obtain ⟨k1, m1, rfl⟩ : ∃ k1 m1, c = .int k1 m1 := by
   unfold zmq at hV
   split at hV
   · exact ⟨_, _, rfl⟩
   · exact hV.elim
 have hone : (Value.int k1 m1).oneCell' = true := by
   rw [hye] at hy
   cases hy with
   | sc h => exact h
 have hcells : (Value.int k1 m1).cells.toList = [Value.int k1 m1] := by rw [Yc hone]
 have hsz1 : (Value.int k1 m1).cells.size = 1 := by rw [Yc hone]; rfl
 obtain ⟨F1, s1, s2, s3, s4, s5⟩ := n2.store (g := 0) (ds := [D.sc (.int k1 m1)]) (us := [Value.int k1 m1]) (j := j) (G := fun _ _ => False) hi (by simpa using hj) rfl (by simp [hone]) (fun q d hd => by
   cases q with
   | zero => simp at hd; subst hd; exact .sc hone
   | succ q => simp at hd) (fun _ _ _ _ _ hk => hk.elim) (fun _ _ _ hk => hk.elim) (fun k hk => h.nS o1 _ k hx1 (n3 k hk))
 have hse : es.set i (setL (es.getD i []) j [D.sc (.int k1 m1)]) = zO es i j (.sc (.int k1 m1)) := rfl
 rw [hse] at s1
 let w1 := w.setCells ad.block (ad.off + (i * szT P e + j)) [Value.int k1 m1]
 have hu := n5 w1 e (zO es i j (.sc (.int k1 m1))) F1 (fun k hk => zX _ _ _ w k (fun e' => by subst e'; exact h.nS o1 _ _ hx1 (n3 _ s3) hk))
   (fun k hk hk' => zX _ _ _ w k (fun e' => by subst e'; exact hk' s3)) s1 (fun k hk hF => (s2 k hk).elim id (fun ⟨q, hq, hG'⟩ => hG'.elim))
 have hne : ∀ k, k ≠ ad.block -> w1.heap[k]? = w.heap[k]? := fun k hk => zX ad.block _ _ w k hk
 have hbF : gh.F o1 ad.block := n3 _ s3
 have hmay : C.w0.heap.size <= ad.block \/ ∀ f, C.may ad.block f := by
   cases x1 with
   | row e' es' => exact h.wrR o1 e' es' _ hx1 hbF
   | box cs' => exact h.wrB o1 cs' _ hx1 hbF (n4 cs' _ rfl s3)
 have hFo : ∀ o' y' k, o' ≠ o1 -> look st.ob o' = some y' -> gh.F o' k -> w1.heap[k]? = w.heap[k]? := fun o' y' k hne' hy' hk' => hne k (fun e' => by
   subst e'; exact hne' (h.dis o' o1 y' x1 _ hy' hx1 hk' hbF))
 have hSo : ∀ k, gh.S k -> w1.heap[k]? = w.heap[k]? := fun k hk => hne k (fun e' => by subst e'; exact h.nS o1 x1 _ hx1 hbF hk)
 let F2 : Nat -> Prop := fun k => (gh.F o1 k /\ ¬ F' k) \/ F1 k
 have hr2 := h.swap (w1 := w1) (F := F2) (X' := No) hx1 (hu.2 rfl (by simp)) (by simp only [w1]; rw [YL]; exact Nat.le_refl _) hFo hSo
   (World.keptBut_setCells ad.block _ _ w (fun q hq => ⟨ad.block, _, rfl, hmay.imp id (fun hh => hh _)⟩)) hu.1 (fun k hk => Or.inl (by
     rcases hk with ⟨hk, _⟩ | hk
     · exact hk
     · exact (s2 k hk).elim (n3 k) (fun ⟨_, _, hG'⟩ => hG'.elim))) (fun k hk => hk.elim) (fun _ _ _ hk => hk.elim)
 -- the cell that is written held a number
 have hold : w.cell? ⟨ad.block, ad.off + (i * szT P e + j), none⟩ = some (.int k0 m0) := by
   cases n2 with
   | row xs H own hszz h1 hx dis nb =>
     have hlt := zaX hi (show j < szT P e by omega)
     obtain ⟨g, cap, he, hcc, hm, hcell, _⟩ := yV own (by omega)
     cases he
     have hv := hx i j _ hce
     have h2 := (hcell _ hlt).trans (yt (by rw [own.1]; exact hlt))
     try simp only [Nat.zero_add] at h2
     have hq : xs.getD (i * szT P e + j) undef = .int k0 m0 := by
       generalize H i j = G0 at hv
       generalize xs.getD (i * szT P e + j) undef = z at hv |-
       cases hv; rfl
     rw [hq] at h2
     simpa using h2
 have Hw : ∀ b y, w.cell? b = some y -> isSl y -> w1.cell? b = some y := fun b y hb hs => by
   rw [<- hb]
   refine World.cell?_setCells_out ad.block [Value.int k1 m1] _ w b (fun hb1 hb2 => ?_)
   by_cases hoff : b.off = ad.off + (i * szT P e + j)
   · exfalso
     have e1 : b = ⟨ad.block, ad.off + (i * szT P e + j), none⟩ := by
       cases b; simp_all
     rw [e1, hold] at hb
     cases hb
     exact hs
   · simp only [List.length_singleton]; omega
 obtain ⟨g1, g2, g3⟩ := gh.upd_self o1 F2
 refine ⟨.skip, w1, ?_, Or.inr ⟨rfl, _, gh.upd o1 (gh.hv o1) (gh.bb o1) (gh.bo o1) F2, hk, ?_⟩⟩
 · have hth : w.there ad.block (ad.off + (i * szT P e + j)) (a.eval y).cells.size := by rw [hye, hsz1]; simpa using s5 0 (by simp)
   have := zdd (P := P) w ad.block (ad.off + (i * szT P e + j)) t (a.eval y) hth (by rw [ht1, hye, hsz1]) (by omega) (by rw [hye, Yc hone]; simp [hone])
   have hw1 : w.setCells ad.block (ad.off + (i * szT P e + j)) (a.eval y).cells.toList = w1 := by rw [hye, hcells]
   rw [hw1] at this
   simp only [execOp, ho, hpv']
   simp [Sem.run_bind, this]
 · have htm : ∀ tt, St.get { st with ob := (o1, setO x1 p (.row false e (zO es i j (.sc (.int k1 m1))))) :: drop st.ob o1 } tt = st.get tt := fun _ => rfl
   have hput : a.put o.dst undef = a := by rw [hdst]; rfl
   rw [hput]
   exact {
     obs := hr2.obs, dis := hr2.dis, sS := hr2.sS, nS := hr2.nS, wrR := hr2.wrR, wrB := hr2.wrB, wrC := hr2.wrC, kept := hr2.kept, pins := hr2.pins
     tms := fun tt => by
       rw [htm]
       refine (h.tms tt).keep (x' := setO x1 p (.row false e (zO es i j (.sc (.int k1 m1))))) hx1 (fun o' => ?_) (fun cs hcs => ?_) (fun p' e' es' v2 hn hs => hn.keep Hw hs hsub hce) h.obs hFo hSo
       · have := yf st o1 o' (setO x1 p (.row false e (zO es i j (.sc (.int k1 m1)))))
         unfold St.swap at this
         exact this
       · subst hcs
         cases p with
         | nil => simp [subO] at hsub
         | cons ij p => exact ⟨_, rfl⟩
     nt := hr2.nt, dfs := hr2.dfs, xl := hr2.xl, xS := hr2.xS, xF := hr2.xF, xW := hr2.xW, s0S := hr2.s0S, sZ := hr2.sZ }
theorem zbJ (hz : xu P) {ops : Array Oper} {Q : Exit -> Act -> World -> Prop} : ∀ (l : List Oper) {st : St} {a : Act} {w : World} {gh : Gh}, Rep P C No st a w gh -> zhZ P C ops l st K -> (∀ a w, Up P C K a w -> Q .normal a w) -> wpList P ops Q l a w
 | [], st, a, w, gh, h, hk, hQ => hQ a w ⟨st, gh, hk, h⟩
 | o :: r, st, a, w, gh, h, hk, hQ => by
   have step : (if Region.wanted o (yielded ops a.tmps) then o.wp P a w (Up P C (fun st' => zhZ P C ops r st' K)) Q else Up P C (fun st' => zhZ P C ops r st' K) (a.put o.dst undef) w) := by
     unfold zhZ at hk
     split at hk
     · rename_i t x y hop hdst hg
       obtain ⟨h1, h2, hk⟩ := hk
       have : Region.wanted o (yielded ops a.tmps) = true := by simp [Region.wanted, hg]
       rw [if_pos this]
       exact (zgJ h hop hdst h1 h2 hk).wp
     · exact Yv (Q := Q) hz h hk.1 hk.2
   unfold wpList
   split
   · rename_i hw
     rw [if_pos hw] at step
     exact Or.inl (Oper.wp_mono (fun a' w' ⟨st', gh', hk', h'⟩ => zbJ hz r h' hk' hQ) step)
   · rename_i hw
     rw [if_neg hw] at step
     obtain ⟨st', gh', hk', h'⟩ := step
     exact zbJ hz r h' hk' hQ
theorem Tri.regK (hz : xu P) {id : Nat} {ops : Array Oper} {Q : Exit -> St -> Prop} (h : zhZ P C ops ops.toList st (Q .normal)) : Tri P C st (.region id ops false) Q :=
 fun a w gh hR => wp_region_list (zbJ (K := Q .normal) hz _ hR h (fun a w h => h))
theorem Tri.ite {c : Operand} {x y : Code} {b : Bool} {Q : Exit -> St -> Prop} (hok : (st.ev c).ok) (hb : (st.ev c).str = .sc (.bool b)) (h : Tri P C st (cond b x y) Q) : Tri P C st (.cond c x y) Q := fun a w gh hR => by
 have hv := hR.use c hok
 rw [hb] at hv
 cases b with
 | true => exact wp_cond_split (t := true) hv.sc_inv (fun _ => h a w gh hR) (fun hf => by cases hf)
 | false => exact wp_cond_split (t := false) hv.sc_inv (fun hf => by cases hf) (fun _ => h a w gh hR)
theorem Tri.blk {id : Nat} {c : Code} {Q : Exit -> St -> Prop} (h : Tri P C st c (Exit.blk id Q)) : Tri P C st (.block id c) Q := fun a w gh hR => wp_block (Code.wp_mono (fun e a' w' hq => by
 cases e with
 | exit j =>
   obtain ⟨st', gh', hk, hR'⟩ := hq
   simp only [Exit.inBlock]
   simp only [Exit.blk] at hk
   split
   · rename_i hj; rw [if_pos hj] at hk; exact ⟨st', gh', hk, hR'⟩
   · rename_i hj; rw [if_neg hj] at hk; exact ⟨st', gh', hk, hR'⟩
 | _ => exact hq) (h a w gh hR))
end
attribute [go_sem] zhZ zgs zmr zmq
def mixT {α : Type} (A B : List α) (i : Nat) : List α := B.take i ++ A.drop i
theorem Zk {α : Type} {A B : List α} (h : B.length = A.length) {i : Nat} (hi : i <= A.length) : (mixT A B i).length = A.length := by simp [mixT]; omega
theorem Xx {α : Type} (A B : List α) : mixT A B 0 = A := by simp [mixT]
theorem zbe {α : Type} {A B : List α} (h : B.length = A.length) : mixT A B A.length = B := by unfold mixT; rw [<- h, List.take_length, h, List.drop_length, List.append_nil]
theorem zbd {α : Type} {A B : List α} (h : B.length = A.length) {i : Nat} (hi : i < A.length) (h2 : i < (mixT A B i).length) : (mixT A B i)[i] = A[i] := by
 simp only [mixT]
 rw [List.getElem_append_right (by simp; omega)]
 simp [Nat.min_eq_left (show i <= B.length by omega)]
theorem zbc {α : Type} {A B : List α} (h : B.length = A.length) {i : Nat} (hi : i < A.length) : (mixT A B i).set i (B[i]'(by omega)) = mixT A B (i + 1) := by
 have e : (B.take i).length = i := by simp; omega
 unfold mixT
 rw [List.drop_eq_getElem_cons hi, List.set_append_right _ _ (by rw [e]; omega), e, Nat.sub_self, List.set_cons_zero, List.take_succ_eq_append_getElem (by omega), List.append_assoc]
 rfl
theorem Xq {α : Type} (f : α -> List D) (l : List α) {i : Nat} (h : i < l.length) : (rows f l)[i]? = some (f l[i]) := by simp [rows, h]
theorem zip {α : Type} (f : α -> List D) (l : List α) (i : Nat) (x : α) : (rows f l).set i (f x) = rows f (l.set i x) := by simp [rows, List.map_set]
theorem zfJ {α : Type} (f : α -> D) (l : List α) {i : Nat} (h : i < l.length) : (row1 f l)[i]? = some [f l[i]] := by simp [row1, h]
theorem zoK {α : Type} (f : α -> D) (l : List α) (i : Nat) (x : α) : (row1 f l).set i [f x] = row1 f (l.set i x) := by simp [row1, List.map_set]
def hgK (k o : Int) (i : Nat) (q : Int) : Int := if (q == k) && !((i : Int) == o) then o else q
def hgX (k o : Int) (i : Nat) (x : NodeD) : NodeD := ⟨x.kind, x.num, x.name, x.kids.map (hgK k o i)⟩
def hgN (k o : Int) (N : List NodeD) : List NodeD := N.mapIdx (hgX k o)
def hgR (k o : Int) (f : FnD) : FnD := if f.ret == k then ⟨f.name, f.params, f.res, f.body, o⟩ else f
def hgP (k o : Int) (p : ProgramD) : ProgramD := ⟨hgN k o p.nodes, p.fns.map (hgR k o)⟩
theorem YA (k o : Int) (N : List NodeD) : (hgN k o N).length = N.length := by simp [hgN]
theorem ziP (k o : Int) (N : List NodeD) {i : Nat} (h : i < N.length) (h2 : i < (hgN k o N).length) : (hgN k o N)[i] = hgX k o i N[i] := by simp [hgN]
theorem zjK {T : List NodeD} {i : Nat} (h : i < T.length) (K : List Int) : (rows (zg false) T).set i [D.sc (.int .i64 T[i].kind), .sc (.int .i64 T[i].num), .sc (.string T[i].name), .row false 3 (row1 cI K)] = rows (zg false) (T.set i ⟨T[i].kind, T[i].num, T[i].name, K⟩) := zip (zg false) T i ⟨T[i].kind, T[i].num, T[i].name, K⟩
theorem zdD {T : List NodeD} {i : Nat} (h : i < T.length) (K : List Int) : zO (rows (zg false) T) i 3 (.row false 3 (row1 cI K)) = rows (zg false) (T.set i ⟨T[i].kind, T[i].num, T[i].name, K⟩) := by
 unfold zO
 rw [List.getD_eq_getElem?_getD, Xq (zg false) T h]
 exact zjK h K
theorem znI {L : List Int} {j : Nat} (h : j < L.length) (v : Int) : zO (row1 cI L) j 0 (.sc (.int .i64 v)) = row1 cI (L.set j v) := by
 unfold zO
 rw [List.getD_eq_getElem?_getD, zfJ cI L h]
 exact zoK cI L j v
theorem zpi {T : List FnD} {i : Nat} (h : i < T.length) (o : Int) : zO (rows (fnC false) T) i 4 (.sc (.int .i64 o)) = rows (fnC false) (T.set i ⟨T[i].name, T[i].params, T[i].res, T[i].body, o⟩) := by
 unfold zO
 rw [List.getD_eq_getElem?_getD, Xq (fnC false) T h]
 exact zip (fnC false) T i ⟨T[i].name, T[i].params, T[i].res, T[i].body, o⟩
theorem ziQ (p : ProgramD) (k o : Int) (hf : p.fns.length <= 1048576) (hn : p.nodes.length <= 1048576) (hk : ∀ x ∈ p.nodes, x.kids.length <= 1048576) :
   SoundAt Tryz.prog 71 (fun uf => zp 0 [.ro (.bp 2000 0), .ro (.sc (.int .i64 k)), .ro (.sc (.int .i64 o))]) [(2000, .box (za false p))]
     (fun rs st => rs = [] /\ xK st.ob [(2000, .box (za false (hgP k o p)))]) := by
 have hBl := YA k o p.nodes
 have hFl : (p.fns.map (hgR k o)).length = p.fns.length := by simp
 refine zm (fn := Tryz.f71) (c := Tryz.f71.body.getD .skip) (res := []) (n := 80) zf (by kernel_rfl) (by rfl) (by kernel_rfl) (by rfl) (by rfl) (by simp [zp]) (fun uf ub C hpin hpin2 hfull => ?_)
 simp only [Tryz.f71, Option.getD_some]
 refine Tri.stop zf ⟨80, [(0, .bp 2000 0), (1, vI k), (2, vI o)], [(2000, .box [.row false 83 (rows (zg false) (hgN k o p.nodes)), .row false 104 (rows (fnC false) p.fns)])]⟩ ?_ ?_
 · simp +decide only [zb, za, hpin, hpin2, go_sem, reduceAdd, reduceMul]
   refine Tri.loop (ι := Nat) (fun i => i <= p.nodes.length) (fun i => ⟨80, [(0, .bp 2000 0), (1, vI k), (2, vI o), (14, vI p.nodes.length), (15, vI i)], [(2000, .box [.row false 83 (rows (zg false) (mixT p.nodes (hgN k o p.nodes) i)), .row false 104 (rows (fnC false) p.fns)])]⟩) (fun i => p.nodes.length - i) 0 (by simp) ?_ ?_
   · refine Ent.weak ?_ ?_ ?_ ?_ <;> simp +decide [zR, subT, subB, zk, zj, zl, St.get, look, vI, vB, vS, cI, cS, cB, zg, za, roI, Xx]
   · rintro i hi
     refine ze zf _ ?_
     by_cases h' : i < p.nodes.length
     · have e : ((i : Int) < (p.nodes.length : Int)) = True := by simp [h']
       have hml := Zk hBl hi
       have h2 : i < (mixT p.nodes (hgN k o p.nodes) i).length := by omega
       have hg := zbd hBl h' h2
       have hst := zbc hBl h'
       rw [ziP k o p.nodes h'] at hst
       have hkx := hk p.nodes[i] (List.getElem_mem h')
       obtain ⟨T1, hT1⟩ : ∃ T, T = mixT p.nodes (hgN k o p.nodes) (i + 1) := ⟨_, rfl⟩
       rw [<- hT1] at hst
       generalize mixT p.nodes (hgN k o p.nodes) i = T0 at hml h2 hg hst |-
       rw [<- hg] at hst hkx
       have hq := Xq (zg false) T0 h2
       simp only [zg, cI, cS] at hq
       have hci : ((i : Int) < (T0.length : Int)) = True := eq_true (by omega)
       simp +decide only [e, hci, h2, hq, Int.natCast_nonneg, vB, vI, zb, za, hpin, hpin2, go_sem, reduceAdd, reduceMul]
       have hLl : (T0[i].kids.map (hgK k o i)).length = T0[i].kids.length := by simp
       have hsx : T0.set i ⟨T0[i].kind, T0[i].num, T0[i].name, T0[i].kids⟩ = T0 := by
         rw [show (⟨T0[i].kind, T0[i].num, T0[i].name, T0[i].kids⟩ : NodeD) = T0[i] from rfl, List.set_getElem_self]
       have hend : (T0.set i ⟨T0[i].kind, T0[i].num, T0[i].name, T0[i].kids.map (hgK k o i)⟩) = T1 := hst
       generalize hxe : T0[i] = x at hst hkx hq hsx hend hLl |-
       refine Tri.loop (ι := Nat) (fun j => j <= x.kids.length) (fun j => ⟨80, [(0, .bp 2000 0), (1, vI k), (2, vI o), (6, vI i), (14, vI p.nodes.length), (15, vI i), (25, .ref 2000 [(0, 0), (i, 3)] x.kids.length), (26, vI x.kids.length), (27, vI j)], [(2000, .box [.row false 83 (rows (zg false) (T0.set i ⟨x.kind, x.num, x.name, mixT x.kids (x.kids.map (hgK k o i)) j⟩)), .row false 104 (rows (fnC false) p.fns)])]⟩) (fun j => x.kids.length - j) 0 (by simp) ?_ ?_
       · refine Ent.weak ?_ ?_ ?_ ?_ <;> simp +decide [zR, subT, subB, zk, zj, zl, St.get, look, vI, vB, vS, cI, cS, cB, zg, za, roI, Xx, hsx]
       · rintro j hj
         by_cases hj' : j < x.kids.length
         · have ej : ((j : Int) < (x.kids.length : Int)) = True := by simp [hj']
           have hKl := Zk hLl hj
           have hj2 : j < (mixT x.kids (x.kids.map (hgK k o i)) j).length := by omega
           have hKg := zbd hLl hj' hj2
           have hKs := zbc hLl hj'
           rw [List.getElem_map] at hKs
           obtain ⟨K1, hK1⟩ : ∃ K, K = mixT x.kids (x.kids.map (hgK k o i)) (j + 1) := ⟨_, rfl⟩
           rw [<- hK1] at hKs
           generalize mixT x.kids (x.kids.map (hgK k o i)) j = K0 at hKl hj2 hKg hKs |-
           have hTl : (T0.set i ⟨x.kind, x.num, x.name, K0⟩).length = T0.length := by simp
           have hi2 : i < (T0.set i ⟨x.kind, x.num, x.name, K0⟩).length := by omega
           have hTg : (T0.set i ⟨x.kind, x.num, x.name, K0⟩)[i] = ⟨x.kind, x.num, x.name, K0⟩ := by simp
           have hq2 := Xq (zg false) _ hi2
           rw [hTg] at hq2
           simp only [zg, cI, cS] at hq2
           have hr2 := zfJ cI K0 hj2
           rw [hKg] at hr2
           simp only [cI] at hr2
           have hcK : ((j : Int) < (K0.length : Int)) = True := eq_true (by omega)
           have hciT : ((i : Int) < ((T0.set i ⟨x.kind, x.num, x.name, K0⟩).length : Int)) = True := eq_true (by omega)
           have hTT : ∀ K, (T0.set i ⟨x.kind, x.num, x.name, K0⟩).set i ⟨x.kind, x.num, x.name, K⟩ = T0.set i ⟨x.kind, x.num, x.name, K⟩ := fun K => by rw [List.set_set]
           have hks := fun K => zjK hi2 K
           rw [hTg] at hks
           simp only [hTT] at hks
           have hsc := znI hj2 o
           have hKK : ∀ y, K0[j] = y -> K0.set j y = K0 := fun y hy => by rw [<- hy, List.set_getElem_self]
           have hKK := hKK _ hKg
           generalize hq0 : x.kids[j] = q at hKg hKs hr2 hKK
           refine Tri.step zf ?_
           simp +decide only [ej, vB, vI, zb, za, hpin, hpin2, go_sem, reduceAdd, reduceMul]
           refine Tri.step zf ?_
           simp +decide only [zb, za, hpin, hpin2, go_sem, reduceAdd, reduceMul]
           refine Tri.seq (Tri.blk ?_)
           refine Tri.step zf ?_
           simp +decide only [hq2, hr2, hcK, hciT, ej, hj2, hi2, Int.natCast_nonneg, zb, za, hpin, hpin2, go_sem, reduceAdd, reduceMul]
           refine Tri.step zf ?_
           cases h1 : q == k with
           | false =>
             have hgq : hgK k o i q = q := by unfold hgK; rw [h1]; rfl
             rw [hgq, hKK] at hKs
             simp +decide only [h1, zb, za, hpin, hpin2, go_sem, reduceAdd, reduceMul]
             refine ze zf _ ?_
             simp +decide only [zb, za, hpin, hpin2, go_sem, reduceAdd, reduceMul]
             refine ze zf _ ?_
             simp +decide only [zb, za, hpin, hpin2, go_sem, reduceAdd, reduceMul]
             refine ⟨j + 1, hj', by omega, Ent.weak ?_ ?_ ?_ ?_⟩
             all_goals simp +decide [zR, subT, subB, zk, zj, zl, St.get, look, vI, vB, vS, cI, cS, cB, zg, za, roI, <- hK1, <- hKs, w64s (n := x.kids.length) hj' (by omega)]
           | true =>
             cases h3 : (i : Int) == o with
             | true =>
               have hgq : hgK k o i q = q := by unfold hgK; rw [h1, h3]; rfl
               rw [hgq, hKK] at hKs
               simp +decide only [h1, h3, bne, zb, za, hpin, hpin2, go_sem, reduceAdd, reduceMul]
               refine ze zf _ ?_
               simp +decide only [zb, za, hpin, hpin2, go_sem, reduceAdd, reduceMul]
               refine ze zf _ ?_
               simp +decide only [zb, za, hpin, hpin2, go_sem, reduceAdd, reduceMul]
               refine ⟨j + 1, hj', by omega, Ent.weak ?_ ?_ ?_ ?_⟩
               all_goals simp +decide [zR, subT, subB, zk, zj, zl, St.get, look, vI, vB, vS, cI, cS, cB, zg, za, roI, <- hK1, <- hKs, w64s (n := x.kids.length) hj' (by omega)]
             | false =>
               simp +decide only [h1, h3, bne, zb, za, hpin, hpin2, go_sem, reduceAdd, reduceMul]
               refine Tri.ite (b := true) (by simp +decide only [zb, za, hpin, hpin2, go_sem, reduceAdd, reduceMul]) (by simp +decide only [zb, za, hpin, hpin2, go_sem, reduceAdd, reduceMul]) ?_
               refine Tri.regK zf ?_
               have hgq : hgK k o i q = o := by unfold hgK; rw [h1, h3]; rfl
               rw [hgq] at hKs
               rw [hKs] at hsc
               simp +decide only [hq2, hr2, hcK, hciT, ej, hj2, hi2, hsc, hks, Int.natCast_nonneg, zb, za, hpin, hpin2, go_sem, reduceAdd, reduceMul]
               refine ze zf _ ?_
               simp +decide only [zb, za, hpin, hpin2, go_sem, reduceAdd, reduceMul]
               have hsk := zdD hi2 K1
               rw [hTg] at hsk
               simp only [hTT] at hsk
               refine ⟨j + 1, hj', by omega, Ent.weak ?_ ?_ ?_ ?_⟩
               all_goals simp +decide [zR, subT, subB, zk, zj, zl, St.get, look, vI, vB, vS, cI, cS, cB, zg, za, roI, <- hK1, hsk, w64s (n := x.kids.length) hj' (by omega)]
         · have hjl : j = x.kids.length := by omega
           subst hjl
           have ej : ((x.kids.length : Int) < (x.kids.length : Int)) = False := by simp
           refine ze zf _ ?_
           simp +decide only [ej, zbe hLl, hend, vB, vI, zb, za, hpin, hpin2, go_sem, reduceAdd, reduceMul]
           refine ⟨i + 1, h', by omega, Ent.weak ?_ ?_ ?_ ?_⟩
           all_goals simp +decide [zR, subT, subB, zk, zj, zl, St.get, look, vI, vB, vS, cI, cS, cB, zg, za, roI, <- hT1, w64s (n := p.nodes.length) h' (by omega)]
     · have hil : i = p.nodes.length := by omega
       subst hil
       have e : ((p.nodes.length : Int) < (p.nodes.length : Int)) = False := by simp
       simp +decide only [e, zbe hBl, vB, vI, zb, za, hpin, hpin2, go_sem, reduceAdd, reduceMul]
       refine Ent.weak ?_ ?_ ?_ ?_
       all_goals simp +decide [zR, subT, subB, zk, zj, zl, St.get, look, vI, vB, vS, cI, cS, cB, zg, za, roI]
 · refine Tri.step zf ?_
   simp +decide only [zb, za, hpin, hpin2, go_sem, reduceAdd, reduceMul]
   refine ze zf _ ?_
   simp +decide only [zb, za, hpin, hpin2, go_sem, reduceAdd, reduceMul]
   refine Tri.loop (ι := Nat) (fun i => i <= p.fns.length) (fun i => ⟨80, [(0, .bp 2000 0), (1, vI k), (2, vI o), (57, vI p.fns.length), (58, vI i)], [(2000, .box [.row false 83 (rows (zg false) (hgN k o p.nodes)), .row false 104 (rows (fnC false) (mixT p.fns (p.fns.map (hgR k o)) i))])]⟩) (fun i => p.fns.length - i) 0 (by simp) ?_ ?_
   · refine Ent.weak ?_ ?_ ?_ ?_ <;> simp +decide [zR, subT, subB, zk, zj, zl, St.get, look, vI, vB, vS, cI, cS, cB, zg, za, roI, Xx]
   · rintro i hi
     refine ze zf _ ?_
     by_cases h' : i < p.fns.length
     · have e : ((i : Int) < (p.fns.length : Int)) = True := by simp [h']
       have hml := Zk hFl hi
       have h2 : i < (mixT p.fns (p.fns.map (hgR k o)) i).length := by omega
       have hg := zbd hFl h' h2
       have hst := zbc hFl h'
       rw [List.getElem_map] at hst
       obtain ⟨T1, hT1⟩ : ∃ T, T = mixT p.fns (p.fns.map (hgR k o)) (i + 1) := ⟨_, rfl⟩
       rw [<- hT1] at hst
       generalize mixT p.fns (p.fns.map (hgR k o)) i = T0 at hml h2 hg hst |-
       have hq := Xq (fnC false) T0 h2
       have hci : ((i : Int) < (T0.length : Int)) = True := eq_true (by omega)
       have hss := zpi h2 o
       have hTT : ∀ y, T0[i] = y -> T0.set i y = T0 := fun y hy => by rw [<- hy, List.set_getElem_self]
       have hTT := hTT _ hg
       rw [hg] at hq hss
       generalize p.fns[i] = f at hg hst hq hss hTT
       simp only [fnC, cI, cS] at hq
       unfold hgR at hst
       cases h1 : f.ret == k with
       | false =>
         rw [h1, if_neg (by decide), hTT] at hst
         simp +decide only [e, hci, h2, hq, h1, Int.natCast_nonneg, vB, vI, zb, za, hpin, hpin2, go_sem, reduceAdd, reduceMul]
         refine ⟨i + 1, h', by omega, Ent.weak ?_ ?_ ?_ ?_⟩
         all_goals simp +decide [zR, subT, subB, zk, zj, zl, St.get, look, vI, vB, vS, cI, cS, cB, zg, za, roI, <- hT1, <- hst, w64s (n := p.fns.length) h' (by omega)]
       | true =>
         rw [h1, if_pos rfl] at hst
         rw [hst] at hss
         have hss3 : (rows (fnC false) T0).set i (((rows (fnC false) T0)[i]?.getD []).set 4 (D.sc (.int .i64 o))) = rows (fnC false) T1 := by rw [<- hss]; unfold zO; simp [List.getD]
         simp +decide only [e, hci, h2, hq, h1, hss, Int.natCast_nonneg, vB, vI, zb, za, hpin, hpin2, go_sem, reduceAdd, reduceMul]
         refine ⟨i + 1, h', by omega, Ent.weak ?_ ?_ ?_ ?_⟩
         all_goals simp +decide [zR, subT, subB, zk, zj, zl, St.get, look, vI, vB, vS, cI, cS, cB, zg, za, roI, <- hT1, hss, hss3, w64s (n := p.fns.length) h' (by omega)]
     · have hil : i = p.fns.length := by omega
       subst hil
       have e : ((p.fns.length : Int) < (p.fns.length : Int)) = False := by simp
       simp +decide only [e, zbe hFl, hgP, vB, vI, zb, za, hpin, hpin2, go_sem, reduceAdd, reduceMul]
theorem zoJ {α : Type} (f : α -> D) (l : List α) (n : Nat) : List.take n (row1 f l) = row1 f (l.take n) := by simp [row1, List.map_take]
theorem zoL {α : Type} (f : α -> D) (l : List α) (n : Nat) : List.drop n (row1 f l) = row1 f (l.drop n) := by simp [row1, List.map_drop]
theorem zlL {α : Type} (f : α -> D) (l m : List α) : row1 f l ++ row1 f m = row1 f (l ++ m) := by simp [row1]
theorem zrz : fo Tryz.prog 134 0 = some 0 := by kernel_rfl
theorem zry : fo Tryz.prog 134 1 = some 2 := by kernel_rfl
theorem zrx : fo Tryz.prog 134 2 = some 3 := by kernel_rfl
theorem rLoS : isR Tryz.prog 134 = some true := by kernel_rfl
theorem sLoS : szT Tryz.prog 134 = 7 := by kernel_rfl
theorem zLoS : zeroCells Tryz.prog 134 = some [.slice none 0 0, .slice none 0 0, .slice none 0 0, .string ⟨#[]⟩, .int .i64 0, .slice none 0 0, .slice none 0 0] := by kernel_rfl
theorem zri : xy Tryz.prog 134 = some [(0, 2), (2, 1), (3, 4)] := by kernel_rfl
attribute [go_sem] zrz zry zrx rLoS sLoS zLoS zri
def GoodS (p : ProgramD) (l : List VarD) (n : Nat) : Prop := Yb p l n = true
theorem GoodS.kid {p : ProgramD} {l : List VarD} {n : Nat} (h : GoodS p l n) (hn : n < p.nodes.length) {k : Int} (hk : k ∈ p.nodes[n].kids) : GoodS p l k.toNat := by
 unfold GoodS at h |-
 rw [zbw l hn, Bool.and_eq_true, List.all_eq_true] at h
 exact h.2 k hk
theorem GoodS.own {p : ProgramD} {l : List VarD} {n : Nat} (h : GoodS p l n) (hn : n < p.nodes.length) : stB p l n = true := by
 unfold GoodS at h
 rw [zbw l hn, Bool.and_eq_true] at h
 exact h.1
theorem Xs {p : ProgramD} (h : zW p = true) : xG p = true /\ ∀ i, i < p.fns.length -> yZ p i = true := by
 unfold zW at h
 obtain ⟨h1, h2⟩ := Bool.and_eq_true_iff.1 h
 unfold yi at h1
 exact ⟨(Bool.and_eq_true_iff.1 h1).1, yn.1 h2⟩
def grows (T T2 : List NodeD) (z : Nat) : Prop := ∃ E : List NodeD, T2 = T ++ E /\ E.length <= z /\ ∀ x ∈ E, x.kids.length <= 12
theorem grows.refl (T : List NodeD) (z : Nat) : grows T T z := ⟨[], by simp, by simp, fun x hx => by simp at hx⟩
theorem grows.trans {T T2 T3 : List NodeD} {a b : Nat} (h : grows T T2 a) (h2 : grows T2 T3 b) : grows T T3 (a + b) := by
 obtain ⟨E, rfl, e1, e2⟩ := h
 obtain ⟨G, rfl, g1, g2⟩ := h2
 refine ⟨E ++ G, by simp, by simp; omega, fun x hx => ?_⟩
 rcases List.mem_append.1 hx with hx | hx
 · exact e2 x hx
 · exact g2 x hx
theorem grows.mono {T T2 : List NodeD} {a b : Nat} (h : grows T T2 a) (hab : a <= b) : grows T T2 b := by
 obtain ⟨E, h1, h2, h3⟩ := h
 exact ⟨E, h1, by omega, h3⟩
theorem grows.len {T T2 : List NodeD} {a : Nat} (h : grows T T2 a) : T.length <= T2.length /\ T2.length <= T.length + a := by
 obtain ⟨E, rfl, h2, _⟩ := h
 simp; omega
theorem grows.get {T T2 : List NodeD} {a : Nat} (h : grows T T2 a) {n : Nat} (hn : n < T.length) : n < T2.length /\ nAt T2 n = nAt T n := by
 obtain ⟨E, rfl, _, _⟩ := h
 have h2 : n < (T ++ E).length := by simp; omega
 refine ⟨h2, ?_⟩
 rw [zF h2, zF hn, List.getElem_append_left hn]
theorem zpa {X : List NodeD} {a : Nat} (h : a < X.length) (k : Nat) (y : NodeD) : nAt (X.set k y) (a : Int) = if k = a then y else nAt X (a : Int) := by
 have h2 : a < (X.set k y).length := by simpa using h
 rw [zF h2, zF h, List.getElem_set]
theorem zpb {X : List NodeD} {a : Nat} (h : a < X.length) (k o : Int) : nAt (hgN k o X) (a : Int) = hgX k o a (nAt X (a : Int)) := by
 have h2 : a < (hgN k o X).length := by rw [YA]; exact h
 rw [zF h2, zF h, ziP]
noncomputable def St.back (k o : Nat) (p : List (Nat × Nat)) (v : Value) (st : St) : St := open Classical in match look st.ob k with
 | some (.row e es) => (match look st.ob o with
   | some x => (match subO x p with
     | some (.sc u) => if u = v then (st.kill k).swap o (setO x p (.row false e es)) else st
     | _ => st)
   | none => st)
 | _ => st
noncomputable def zoD (k : Nat) (v : Value) (n : Nat) : V -> V
 | .sc u => open Classical in if u = v then .ref k [] n else .sc u
 | x => x
noncomputable def zpS (k : Nat) (v : Value) (n : Nat) : V -> V
 | .agg vs => .agg (vs.map (zoD k v n))
 | x => zoD k v n x
noncomputable def St.same (k : Nat) (v : Value) (t : Nat) (st : St) : St := match look st.ob k with
 | some (.row e es) => st.set t (zpS k v es.length (st.get t))
 | _ => st
section
variable {P : Program} {w w1 : World} {C : Cx} {X : Nat -> Prop} {gh gh1 : Gh} {st : St} {a : Act} {v : Value} {u : Value} {ob : List (Nat × Ob)} {S : Nat -> Prop} {K : St -> Prop}
theorem Ow.sliceV {e : TypeId} {es : List (List D)} {F : Nat -> Prop} (h : Ow P w S (.row false e es) u F) : ∃ A c, u = .slice A es.length c := by
 generalize hd : D.row false e es = d at h
 cases h with
 | dead => cases hd
 | sc => cases hd
 | shared => cases hd
 | row xs F own =>
   cases hd
   rcases own.2 with ⟨rfl, h0⟩ | ⟨g, cap, cur, rfl, _⟩
   · refine ⟨none, 0, ?_⟩
     first | rw [h0] | rw [h0.1] | rw [h0.2]
   · exact ⟨_, _, rfl⟩
theorem Ent.back {k o : Nat} {p : List (Nat × Nat)} {x0 : Nat × Nat} (hpk : C.pin k = some (v, x0)) (hko : k ≠ o) (hp : p ≠ []) : Ent P C st (st.back k o p v) := fun a w gh hR => by
 unfold St.back
 split
 case h_2 => exact ⟨gh, hR⟩
 rename_i e es hk
 split
 case h_2 => exact ⟨gh, hR⟩
 rename_i x ho
 split
 case h_2 => exact ⟨gh, hR⟩
 rename_i u hs
 split
 case isFalse => exact ⟨gh, hR⟩
 rename_i huv
 have hv : gh.hv k = v := by
   have := hR.pins k _ hpk (by rw [hk]; simp)
   exact congrArg (·.1) this
 have h1 := hR.take hk
 have ho1 : look (st.kill k).ob o = some x := by
   show look (drop st.ob k) o = some x
   rw [ye, if_neg hko]; exact ho
 obtain ⟨v', F', hn, how, hsub, hbb, hback⟩ := (h1.obs o x ho1).part hs hp
 have hrow : Ow P w gh.S (.row false e es) (gh.hv k) (gh.F k) := by
   have := hR.obs k _ hk
   cases this with | row h => exact h
 have huv' : v' = u /\ ∀ k, ¬ F' k := by
   generalize hd : D.sc u = d at how
   cases how with
   | dead => cases hd
   | sc => cases hd; exact ⟨rfl, fun _ h => h⟩
   | shared => cases hd
   | row => cases hd
 have hdis : ∀ j, gh.F k j -> ¬ gh.F o j := fun j h1 h2 => hko (hR.dis k o _ _ j hk ho h1 h2)
 rw [hv, <- huv, <- huv'.1] at hrow
 have h2 := hback (.row false e es) (gh.F k) hrow (fun j g1 g2 => absurd g2 (hdis j g1))
 exact ⟨_, h1.swap (X' := No) ho1 (zfV hp _) (Nat.le_refl _) (fun _ _ _ _ _ _ => rfl) (fun _ _ => rfl) (World.keptBut_refl w _) h2 (fun j hj => hj.elim (fun h => Or.inl h.1) (fun h => Or.inr (Or.inr h))) (fun _ hk => hk.elim) (fun _ _ _ hk => hk.elim)⟩
end
attribute [go_sem] St.back St.same zpS zoD
def kidD (h : Option Value) (ks : List Int) : D := match h with
 | none => .row false 3 (row1 cI ks)
 | some v => .sc v
def zrn (h : Option Value) (x : NodeD) : List D := [.sc (.int .i64 x.kind), .sc (.int .i64 x.num), .sc (.string x.name), kidD h x.kids]
def zkv (H : Nat -> Option Value) (T : List NodeD) : List (List D) := T.mapIdx (fun i x => zrn (H i) x)
def upH (H : Nat -> Option Value) (n : Nat) (v : Value) : Nat -> Option Value := fun i => if i = n then some v else H i
theorem zkF (l : List ParamD) : shLL (rows (zr false) l) = rows (zr true) l := by
 rw [yN]
 simp only [rows, List.map_map]
 apply List.map_congr_left
 intro x _
 simp [zr, shL, shD, cI, cS]
theorem zhp (l : List NodeD) : shLL (rows (zg false) l) = rows (zg true) l := by
 rw [yN]
 simp only [rows, List.map_map]
 apply List.map_congr_left
 intro x _
 simp [zg, shL, shD, cI, cS, yR]
theorem zmw (l : List FnD) : shLL (rows (fnC false) l) = rows (fnC true) l := by
 rw [yN]
 simp only [rows, List.map_map]
 apply List.map_congr_left
 intro x _
 have h := zkF x.params
 simp only [rows] at h
 simp [fnC, shL, shD, cI, cS, rows, h]
theorem zjT {p : ProgramD} {f k : Int} (h : (fnNs p f).contains k = true) : 0 <= k /\ k.toNat < p.nodes.length := by
 obtain ⟨i, hi, rfl⟩ := List.getElem_of_mem (List.contains_iff_mem.1 h)
 exact zbp p f hi
structure CallIs (p : ProgramD) (n j : Nat) : Prop where
 right : Right p
 few : ∀ m, m < p.nodes.length -> szB p.nodes m <= 360000
 hn : n < p.nodes.length
 hj : j < p.fns.length
 at_ : xE p.fns p.nodes[n].name = j
 kids : p.nodes[n].kids.length = p.fns[j].params.length
 body : 0 <= p.fns[j].body /\ p.fns[j].body.toNat < p.nodes.length
 ret : p.fns[j].ret < 0 \/ (0 <= p.fns[j].ret /\ p.fns[j].ret.toNat < p.nodes.length)
 params : p.fns[j].params.length <= 3
 kind : p.nodes[n].kind = 12
section
variable {P : Program} {w w1 : World} {C : Cx} {X : Nat -> Prop} {gh gh1 : Gh} {st : St} {a : Act} {v : Value} {u : Value} {ob : List (Nat × Ob)} {S : Nat -> Prop} {K : St -> Prop}
end
theorem znP (p q : ProgramD) (h : zE p <= 1048576) : zE (finP p q) <= 1048576 := by
 unfold finP
 cases hO : zbt q with
 | false => rw [if_neg (by decide)]; exact h
 | true =>
   rw [if_pos rfl]
   unfold zbt at hO
   have hR := (Bool.and_eq_true_iff.1 hO).2
   exact Nat.le_trans (zkx (yh (Xs hR).1)) (by decide)
open Classical in
def zqz (i : Nat) (x : Int) (y : NodeD) : NodeD := ⟨y.kind, y.num, y.name, y.kids.take i ++ [x] ++ y.kids.drop i⟩
def zqA (T : List NodeD) (b i : Nat) (x : Int) : List NodeD := T.set b (zqz i x (nAt T b))
def zrK (s : ByteArray) : NodeD := ⟨2, 0, s, []⟩
def zrL (s : ByteArray) (k : Int) : NodeD := ⟨13, 0, s, [k]⟩
def exB (N : List NodeD) (k b i : Nat) (s : ByteArray) : List NodeD := zqA (((N ++ [nAt N k]) ++ [zrL s N.length]).set k (zrK s)) b i (N.length + 1)
def exPB (p : ProgramD) (k b i : Nat) (s : ByteArray) : ProgramD := ⟨exB p.nodes k b i s, p.fns⟩
theorem zek {nodes : List NodeD} (m : Nat) : ∀ {j i : Nat}, i <= j -> j <= nodes.length -> cntK nodes i m <= cntK nodes j m
 | 0, i, h, _ => by rw [Nat.le_zero.1 h]; exact Nat.le_refl _
 | j + 1, i, h, hj => by
   by_cases e : i = j + 1
   · rw [e]; exact Nat.le_refl _
   · rw [XE (nodes := nodes) (i := j) (by omega)]
     have := zek (nodes := nodes) m (i := i) (j := j) (by omega) (by omega)
     omega
theorem zkK {nodes : List NodeD} (hone : ∀ m, m < nodes.length -> cntK nodes nodes.length m <= 1) {i j m : Nat} (hi : i < nodes.length) (hj : j < nodes.length) (hm : m < nodes.length) (h1 : (m : Int) ∈ nodes[i].kids) (h2 : (m : Int) ∈ nodes[j].kids) : i = j := by
 have key : ∀ i j (hi : i < nodes.length) (hj : j < nodes.length), i < j -> (m : Int) ∈ nodes[i].kids -> (m : Int) ∈ nodes[j].kids -> False := fun i j hi hj hij h1 h2 => by
   have e1 := XE hi m
   have e2 := XE hj m
   have c1 := List.count_pos_iff.2 h1
   have c2 := List.count_pos_iff.2 h2
   have m1 := zek (nodes := nodes) m (i := i + 1) (j := j) (by omega) (by omega)
   have m2 := zek (nodes := nodes) m (i := j + 1) (j := nodes.length) (by omega) (by omega)
   have := hone m hm
   omega
 rcases Nat.lt_trichotomy i j with h | h | h
 · exact (key i j hi hj h h1 h2).elim
 · exact h
 · exact (key j i hj hi h h2 h1).elim
theorem Reach.tail {nodes : List NodeD} {a b : Nat} (h : Reach nodes a b) : a = b \/ ∃ (m : Nat) (hm : m < nodes.length) (kid : Int), Reach nodes a m /\ kid ∈ nodes[m].kids /\ kid.toNat = b := by
 cases h with
 | refl => exact Or.inl rfl
 | step h hm hk => exact Or.inr ⟨_, hm, _, h, hk, rfl⟩
theorem zjJ {S : Int -> List ByteArray -> Bool} {nodes : List NodeD} {blk : Bool} : ∀ (l : List Int) (nm : List ByteArray), xY S nodes blk nm l = true -> ∀ j (h : j < l.length), S l[j] ((l.take j).foldl (Xf nodes blk) nm) = true
 | kid :: r, nm, hh, 0, _ => by
   unfold xY at hh
   exact (Bool.and_eq_true_iff.1 hh).1
 | kid :: r, nm, hh, j + 1, h => by
   unfold xY at hh
   have := zjJ r _ (Bool.and_eq_true_iff.1 hh).2 j (by simpa using h)
   simpa using this
theorem zjO {nodes : List NodeD} {blk : Bool} : ∀ (l : List Int) (nm : List ByteArray) (s : ByteArray), s ∈ l.foldl (Xf nodes blk) nm -> s ∈ nm \/ ∃ k ∈ l, (nAt nodes k).kind = 13 /\ (nAt nodes k).name = s
 | [], nm, s, h => Or.inl h
 | kid :: r, nm, s, h => by
   rw [List.foldl_cons] at h
   rcases zjO r _ s h with h1 | ⟨k, hk, h1⟩
   · unfold Xf at h1
     split at h1
     · rename_i hc
       rcases List.mem_append.1 h1 with h2 | h2
       · exact Or.inl h2
       · refine Or.inr ⟨kid, List.mem_cons_self, ?_, ?_⟩
         · have := (Bool.and_eq_true_iff.1 hc).2
           simpa using this
         · exact (List.mem_singleton.1 h2).symm
     · exact Or.inl h1
   · exact Or.inr ⟨k, List.mem_cons_of_mem _ hk, h1⟩
theorem zhF {nodes : List NodeD} : ∀ (l : List Int) (nm : List ByteArray), l.foldl (Xf nodes false) nm = nm
 | [], _ => rfl
 | kid :: r, nm => by
   rw [List.foldl_cons]
   have : Xf nodes false nm kid = nm := by simp [Xf]
   rw [this]; exact zhF r nm
theorem zaQ {p : ProgramD} (hD : Deep p.nodes) {fn : Int} {n : Nat} (hn : n < p.nodes.length) {nm : List ByteArray} (h : zT p fn n nm = true) : ownB p fn nm p.nodes[n] = true /\ ∀ j (hj : j < p.nodes[n].kids.length), zT p fn p.nodes[n].kids[j] ((p.nodes[n].kids.take j).foldl (Xf p.nodes (p.nodes[n].kind == 20)) nm) = true := by
 unfold zT zkt at h
 rw [zF hn, Int.toNat_natCast] at h
 obtain ⟨h1, h2⟩ := Bool.and_eq_true_iff.1 h
 refine ⟨h1, fun j hj => ?_⟩
 have h3 := zjJ _ _ h2 j hj
 have hk := hD.kid hn p.nodes[n].kids[j] (List.getElem_mem hj)
 obtain ⟨q, hq⟩ : ∃ q : Nat, p.nodes[n].kids[j] = q := ⟨p.nodes[n].kids[j].toNat, by omega⟩
 rw [hq] at h3 hk |-
 rwa [zeU hD fn n q _ (by omega) (by omega)] at h3
theorem zlF {p : ProgramD} (hD : Deep p.nodes) (hone : ∀ m, m < p.nodes.length -> cntK p.nodes p.nodes.length m <= 1) (fn : Int) {L : Nat} (hL : L < p.nodes.length) : ∀ (n : Nat) (nm : List ByteArray), n < p.nodes.length -> zT p fn n nm = true -> Reach p.nodes n L -> ∃ nm', zT p fn L nm' = true /\ ∀ s ∈ nm', s ∈ nm \/ ∃ m : Nat, m < p.nodes.length /\ Reach p.nodes n m /\ m ≠ L /\ (nAt p.nodes m).kind = 13 /\ (nAt p.nodes m).name = s := by
 intro n
 induction n using Nat.strongRecOn with
 | ind n ih =>
 intro nm hn hs hr
 rcases hr.head with rfl | ⟨_, kid, hkid, hr2⟩
 · exact ⟨nm, hs, fun s h => Or.inl h⟩
 · obtain ⟨j, hj, hje⟩ := List.getElem_of_mem hkid
   have hk := hD.kid hn kid hkid
   obtain ⟨q, rfl⟩ : ∃ q : Nat, kid = q := ⟨kid.toNat, by omega⟩
   have h1 := (zaQ hD hn hs).2 j hj
   rw [hje] at h1
   rw [Int.toNat_natCast] at hr2
   obtain ⟨nm', h2, h3⟩ := ih q (by omega) _ (by omega) h1 hr2
   refine ⟨nm', h2, fun s hsm => ?_⟩
   rcases h3 s hsm with h4 | ⟨m, m0, m1, m2, m3, m4⟩
   · rcases zjO _ _ _ h4 with h5 | ⟨k, hk5, h6, h7⟩
     · exact Or.inl h5
     · right
       obtain ⟨i, hi, hie⟩ := List.getElem_of_mem hk5
       rw [List.getElem_take] at hie
       have hij : i < j := by simp at hi; omega
       have hil : i < p.nodes[n].kids.length := by omega
       have hkk := hD.kid hn k (by rw [<- hie]; exact List.getElem_mem hil)
       obtain ⟨m, rfl⟩ : ∃ m : Nat, k = m := ⟨k.toNat, by omega⟩
       refine ⟨m, by omega, ?_, ?_, h6, h7⟩
       · have := Reach.step (.refl n) hn (show (m : Int) ∈ p.nodes[n].kids by rw [<- hie]; exact List.getElem_mem hil)
         rwa [Int.toNat_natCast] at this
       · rintro rfl
         have hmem : (m : Int) ∈ p.nodes[n].kids := by rw [<- hie]; exact List.getElem_mem hil
         rcases hr2.tail with rfl | ⟨b, hb, kd, g1, g2, g3⟩
         · have hnd := hD.nodup p.nodes[n] (List.getElem_mem hn)
           have h9 := List.pairwise_iff_getElem.1 hnd i j hil hj hij
           exact h9 (by rw [hie, hje])
         · have hkd := hD.kid hb kd g2
           have hkm : kd = (m : Int) := by omega
           rw [hkm] at g2
           have := zkK hone hb hn hL g2 hmem
           have := g1.le (hD.deep q (by omega))
           omega
   · refine Or.inr ⟨m, m0, ?_, m2, m3, m4⟩
     have := (Reach.step (.refl n) hn hkid).trans (by rw [Int.toNat_natCast]; exact m1)
     exact this
theorem zhW {l : List ByteArray} {s : ByteArray} (h : yD l s = true) : s ∈ l := by
 unfold yD at h
 obtain ⟨x, hx, he⟩ := List.any_eq_true.1 h
 have := of_decide_eq_true he
 rwa [<- this]
theorem zjU (s : ByteArray) : ∀ (l : List VarD) (i j : Nat), Xg s l i = j -> ∃ h : j - i < l.length, i <= j /\ l[j - i].name = s
 | [], i, j, h => by simp [Xg] at h
 | v :: r, i, j, h => by
   unfold Xg at h
   split at h
   · rename_i hv
     have : i = j := by omega
     subst this
     exact ⟨by simp, Nat.le_refl _, by simpa using hv⟩
   · obtain ⟨h1, h2, h3⟩ := zjU s r (i + 1) j h
     refine ⟨by simp; omega, by omega, ?_⟩
     have e : j - i = (j - (i + 1)) + 1 := by omega
     simp only [e, List.getElem_cons_succ]
     exact h3
theorem zfs {l : List VarD} {s : ByteArray} {j : Nat} (h : yp l s = j) : ∃ h : j < l.length, l[j].name = s := by
 obtain ⟨h1, _, h3⟩ := zjU s l 0 j h
 exact ⟨by simpa using h1, by simpa using h3⟩
theorem zee (s : ByteArray) : ∀ (l m : List VarD) (i : Nat), l.map VarD.name = m.map VarD.name -> Xg s l i = Xg s m i
 | [], [], _, _ => rfl
 | [], _ :: _, _, h => by simp at h
 | _ :: _, [], _, h => by simp at h
 | v :: r, w :: t, i, h => by
   simp only [List.map_cons, List.cons.injEq] at h
   unfold Xg
   rw [h.1, zee s r t (i + 1) h.2]
theorem zii (p : ProgramD) (l : List VarD) (i j : Nat) (hj : j < l.length) : ((Ys p l i)[j]'(by rw [ZA]; exact hj)).name = l[j].name := by
 unfold Ys
 split
 · simp only [List.getElem_set]
   split
   · rename_i h; subst h; simp [List.getD, hj]
   · rfl
 · rfl
theorem zan (p : ProgramD) (l : List VarD) : ∀ (i j : Nat) (hj : j < l.length), ((zZ p l i)[j]'(by rw [zD]; exact hj)).name = l[j].name /\ ((zZ p l i)[j]'(by rw [zD]; exact hj)).node = l[j].node
 | 0, j, hj => ⟨rfl, rfl⟩
 | i + 1, j, hj => by
   have h1 := zan p l i j hj
   have hj2 : j < (zZ p l i).length := by rw [zD]; exact hj
   exact ⟨(zii p (zZ p l i) i j hj2).trans h1.1, (zcV p (zZ p l i) i j hj2).trans h1.2⟩
theorem zig (p : ProgramD) (fn : Int) : (zL p fn).map VarD.name = (xq p fn).map VarD.name := by
 unfold zL
 apply List.ext_getElem
 · simp [zD]
 · intro i h1 h2
   simp only [List.getElem_map]
   exact (zan p (xq p fn) _ i (by simpa using h2)).1
theorem zmX (p : ProgramD) (fn : Int) (s : ByteArray) : yp (zL p fn) s = yp (xq p fn) s := zee s _ _ 0 (zig p fn)
theorem zkm {nodes : List NodeD} {k : Int} (hd : ¬ (zQ nodes k == 0) = true) (m : Nat) : (m : Int) ∈ zI nodes k ↔ Reach nodes k.toNat m := by
 have hd2 : (zQ nodes k == 0) = false := by simpa using hd
 obtain ⟨n, rfl, hnl, hdn⟩ := Zm hd2
 unfold zI
 rw [hd2]
 simp only [if_false, Bool.false_eq_true]
 show (m : Int) ∈ ints (zcb nodes (n : Int).toNat) ↔ _
 rw [zjM]
 exact yO hdn
structure LetIs (p : ProgramD) (f : Nat) (s : ByteArray) (t v : Nat) : Prop where
 right : Right p
 hf : f < p.fns.length
 ht : t < p.nodes.length
 kind : p.nodes[t].kind = 13
 name : p.nodes[t].name = s
 kids : p.nodes[t].kids = [(v : Int)]
 hv : v < t
 val : xw (p.nodes[v]'(Nat.lt_trans hv ht)).kind = true
 one : ∀ m, m < p.nodes.length -> cntK p.nodes p.nodes.length m <= 1
 own : ¬ (xj (p.nodes[v]'(Nat.lt_trans hv ht)).kind = true /\ (p.nodes[v]'(Nat.lt_trans hv ht)).name = s)
 kid : ∀ q : Nat, (q : Int) ∈ (p.nodes[v]'(Nat.lt_trans hv ht)).kids -> ¬ (xj (nAt p.nodes q).kind = true /\ (nAt p.nodes q).name = s)
theorem zoq {p : ProgramD} (hR : zW p = true) {f : Nat} (hf : f < p.fns.length) {s : ByteArray} {i : Nat} (hi : yp (zL p f) s = i) (hnode : 0 <= ((zL p f).getD i vr0).node) : ∃ t v : Nat, ((zL p f).getD i vr0).node = t /\ LetIs p f s t v := by
 have hP := (Xs hR).1
 have hG := yh hP
 have hD := hG.deep
 have hone := zoX hP
 have hNR : yi p = true := by
   unfold zW at hR
   exact (Bool.and_eq_true_iff.1 hR).1
 have hfn : xa p f = true := by
   unfold yi at hNR
   exact yn.1 (Bool.and_eq_true_iff.1 hNR).2 f hf
 unfold xa at hfn
 obtain ⟨hnb, hsn⟩ := Bool.and_eq_true_iff.1 hfn
 have hsb := (Bool.and_eq_true_iff.1 hsn).1
 rw [yS hf] at hsb
 obtain ⟨⟨b0, b1⟩, _⟩ := xT (hG.fn f hf)
 obtain ⟨b, hb⟩ : ∃ b : Nat, p.fns[f].body = b := ⟨p.fns[f].body.toNat, by omega⟩
 rw [hb] at hsb b1
 rw [Int.toNat_natCast] at b1
 rw [zmX] at hi
 obtain ⟨hil, hname⟩ := zfs hi
 have hil2 : i < (zL p f).length := by unfold zL; rw [zD]; exact hil
 have hnd : ((zL p f).getD i vr0).node = (xq p f)[i].node := by
   rw [List.getD_eq_getElem?_getD, List.getElem?_eq_getElem hil2, Option.getD_some]
   exact (zan p (xq p f) _ i hil).2
 rw [hnd] at hnode |-
 have h0 : inI (f : Int) 0 (p.fns.length - 1) = true := by simp [inI]; omega
 have hvl : xq p f = ya p.fns[f].params ++ yY p.nodes (zI p.nodes b) := by
   unfold xq
   rw [if_pos h0, yS hf, hb]
 have uniq : ∀ j (hj : j < (xq p f).length), (xq p f)[j].name = s -> j = i := fun j hj hn => by
   have := yn.1 hnb j hj
   unfold zeD at this
   have h2 : yp (xq p f) ((xq p f).getD j vr0).name = (j : Int) := by simpa using this
   rw [List.getD_eq_getElem?_getD, List.getElem?_eq_getElem hj, Option.getD_some, hn, hi] at h2
   omega
 have deepb : ¬ (zQ p.nodes (b : Int) == 0) = true := by
   have := hD.deep b b1
   have h9 : inI (b : Int) 0 (p.nodes.length - 1) = true := by simp [inI]; omega
   simp [zQ, h9, this]
 -- the let that is meant
 have hmem : (xq p f)[i] ∈ yY p.nodes (zI p.nodes b) := by
   have hm : (xq p f)[i] ∈ ya p.fns[f].params ++ yY p.nodes (zI p.nodes b) := by rw [<- hvl]; exact List.getElem_mem hil
   rcases List.mem_append.1 hm with h | h
   · unfold ya at h
     obtain ⟨x, _, hx⟩ := List.mem_map.1 h
     rw [<- hx] at hnode
     simp [zaf] at hnode
   · exact h
 unfold yY at hmem
 obtain ⟨k, hk, hkv⟩ := List.mem_flatMap.1 hmem
 obtain ⟨k0, k1, k2⟩ := yF hk
 obtain ⟨t, rfl⟩ : ∃ t : Nat, k = t := ⟨k.toNat, by omega⟩
 simp only [Int.toNat_natCast] at k1 k2
 unfold letV at hkv
 split at hkv
 case isFalse => simp at hkv
 rename_i h13
 have hkv := List.mem_singleton.1 hkv
 rw [hkv] at hname |-
 simp only at hname
 rw [zF k1] at h13 hname
 have h13 : p.nodes[t].kind = 13 := by simpa using h13
 have hx := Zn p.nodes t (hD.deep t k1)
 simp only [ZC, Bool.and_eq_true, Xc] at hx
 obtain ⟨_, _, hs, _, _, hkb⟩ := hx
 rw [zF k1] at hs hkb
 have hl1 : p.nodes[t].kids.length = 1 := by
   rw [h13] at hs
   have := zx hs
   have e1 : (zG 13) = (1, 1) := by decide
   rw [e1] at this
   simp only at this
   omega
 obtain ⟨kid, hkid⟩ := List.length_eq_one_iff.1 hl1
 have hkd := hD.kid k1 kid (by rw [hkid]; exact List.mem_singleton.2 rfl)
 obtain ⟨v, rfl⟩ : ∃ v : Nat, kid = v := ⟨kid.toNat, by omega⟩
 have hvt : v < t := by omega
 have hvl2 : v < p.nodes.length := by omega
 have hval : xw p.nodes[v].kind = true := by
   have := yn.1 hkb 0 (by omega)
   unfold kidB at this
   have h3 := (Bool.and_eq_true_iff.1 (Bool.and_eq_true_iff.1 this).2).2
   rw [h13] at h3
   simp only [hkid, List.getD_cons_zero, zF hvl2] at h3
   simpa [yC] using h3
 -- what is in sight there
 obtain ⟨nm, hsee, hnm⟩ := zlF hD hone f k1 b _ b1 hsb (by simpa using k2)
 have hno : s ∉ nm := fun hin => by
   rcases hnm s hin with h | ⟨m, m0, m1, m2, m3, m4⟩
   · unfold parN at h
     obtain ⟨x, hx, hxs⟩ := List.mem_map.1 h
     obtain ⟨j, hj, rfl⟩ := List.getElem_of_mem hx
     have hj2 : j < (xq p f).length := by rw [hvl]; simp [ya]; omega
     have e1 : (xq p f)[j] = zaf p.fns[f].params[j] := by
       have : (xq p f)[j]? = (ya p.fns[f].params ++ yY p.nodes (zI p.nodes b))[j]? := by rw [hvl]
       rw [List.getElem?_eq_getElem hj2, List.getElem?_append_left (by simpa [ya] using hj)] at this
       unfold ya at this
       rw [List.getElem?_map, List.getElem?_eq_getElem hj] at this
       simpa using this
     have e2 := uniq j hj2 (by rw [e1]; exact hxs)
     subst e2
     rw [hkv] at e1
     have := congrArg VarD.node e1
     simp [zaf] at this
   · have hmu : (m : Int) ∈ zI p.nodes b := (zkm deepb m).2 (by simpa using m1)
     have hml : (⟨(nAt p.nodes m).name, 0, (m : Int)⟩ : VarD) ∈ xq p f := by
       rw [hvl]
       refine List.mem_append_right _ ?_
       unfold yY
       refine List.mem_flatMap.2 ⟨m, hmu, ?_⟩
       unfold letV
       rw [m3]
       simp
     obtain ⟨j, hj, hje⟩ := List.getElem_of_mem hml
     have e2 := uniq j hj (by rw [hje]; exact m4)
     subst e2
     rw [hkv] at hje
     have := congrArg VarD.node hje
     simp only at this
     omega
 have h20 : (p.nodes[t].kind == 20) = false := by rw [h13]; decide
 have hs1 := (zaQ hD k1 hsee).2 0 (by omega)
 rw [h20] at hs1
 simp only [hkid, List.getElem_cons_zero, List.take_zero, List.foldl_nil] at hs1
 have hv1 := zaQ hD hvl2 hs1
 have v20 : (p.nodes[v].kind == 20) = false := by
   cases h : p.nodes[v].kind == 20 with
   | false => rfl
   | true =>
     have h : p.nodes[v].kind = 20 := by simpa using h
     rw [h] at hval
     revert hval; decide
 have alone : ∀ x : NodeD, ownB p f nm x = true -> ¬ (xj x.kind = true /\ x.name = s) := fun x hx hh => by
   unfold ownB at hx
   have h1 := (Bool.and_eq_true_iff.1 hx).1
   rw [hh.1, hh.2] at h1
   exact hno (zhW (by simpa using h1))
 refine ⟨t, v, rfl, ⟨hG, hf, k1, h13, hname, hkid, hvt, hval, hone, alone _ hv1.1, fun q hq => ?_⟩⟩
 obtain ⟨j, hj, hje⟩ := List.getElem_of_mem hq
 have hql := hD.kid hvl2 q hq
 have h2 := hv1.2 j hj
 rw [v20, zhF, hje] at h2
 have h3 := (zaQ hD (by omega) h2).1
 rw [zF (by omega)]
 exact alone _ h3
def hgS (U : List Int) (v : Int) (i : Nat) (q : Int) : Int := if U.contains q && !((i : Int) == v) then v else q
def ivN (U : List Int) (v : Int) (N : List NodeD) : List NodeD := U.foldl (fun N x => hgN x v N) N
def ivR (U : List Int) (v : Int) (f : FnD) : FnD := if U.contains f.ret then ⟨f.name, f.params, f.res, f.body, v⟩ else f
def ivF (U : List Int) (v : Int) (F : List FnD) : List FnD := U.foldl (fun F x => F.map (hgR x v)) F
def cutX (t : Int) (x : NodeD) : NodeD := ⟨x.kind, x.num, x.name, x.kids.erase t⟩
def cutY (t : Int) (x : NodeD) : NodeD := if x.kind == 20 then ⟨x.kind, x.num, x.name, x.kids.filter (fun q => q != t)⟩ else x
def ivS (U : List Int) (y : NodeD) (N : List NodeD) : List NodeD := U.foldl (fun N x => N.set x.toNat y) N
def ivPA (p : ProgramD) (U : List Int) (v t : Int) : ProgramD := ⟨(ivN U v p.nodes).map (cutX t), ivF U v p.fns⟩
def ivPB (p : ProgramD) (U : List Int) (v t : Int) : ProgramD := ⟨(ivS U (nAt p.nodes v) p.nodes).map (cutY t), p.fns⟩
noncomputable def xA (p : ProgramD) (fn : Int) (s : ByteArray) : List Int := (fnNs p fn).filter (fun k => xj (nAt p.nodes k).kind && decide ((nAt p.nodes k).name = s))
theorem ZK (v : Int) : ∀ (U : List Int) (N : List NodeD), (ivN U v N).length = N.length
 | [], _ => rfl
 | x :: r, N => by
   have := ZK v r (hgN x v N)
   rw [YA] at this
   exact this
theorem ZJ (y : NodeD) : ∀ (U : List Int) (N : List NodeD), (ivS U y N).length = N.length
 | [], _ => rfl
 | x :: r, N => by
   have := ZJ y r (N.set x.toNat y)
   rw [List.length_set] at this
   exact this
theorem znL (x : Int) (U : List Int) (v : Int) (i : Nat) (q : Int) : hgS U v i (hgK x v i q) = hgS (x :: U) v i q := by
 unfold hgS hgK
 cases hi : (i : Int) == v with
 | true => simp
 | false =>
   by_cases hq : q = x
   · subst hq; simp
   · have : (q == x) = false := by simpa using hq
     rw [this, List.contains_cons, this, Bool.false_or]; rfl
theorem zos (v : Int) : ∀ (U : List Int) (N : List NodeD) {a : Nat}, a < N.length -> nAt (ivN U v N) (a : Int) = ⟨(nAt N (a : Int)).kind, (nAt N (a : Int)).num, (nAt N (a : Int)).name, (nAt N (a : Int)).kids.map (hgS U v a)⟩
 | [], N, a, h => by
   have : (nAt N (a : Int)).kids.map (hgS [] v a) = (nAt N (a : Int)).kids := by
     rw [show hgS [] v a = id by funext q; simp [hgS]]
     simp
   rw [this]; rfl
 | x :: r, N, a, h => by
   have := zos v r (hgN x v N) (a := a) (by rw [YA]; exact h)
   rw [zpb h] at this
   simp only [hgX, List.map_map] at this
   show nAt (ivN r v (hgN x v N)) (a : Int) = _
   rw [this]
   congr 1
   apply List.map_congr_left
   intro q _
   exact znL x r v a q
theorem znM (x : Int) (U : List Int) (v : Int) (f : FnD) : ivR U v (hgR x v f) = ivR (x :: U) v f := by
 obtain ⟨n, ps, rs, b, r⟩ := f
 unfold ivR hgR
 by_cases hq : r = x
 · subst hq; simp
 · have : (r == x) = false := by simpa using hq
   simp only
   rw [this, List.contains_cons, this, Bool.false_or]; rfl
theorem zdR (v : Int) : ∀ (U : List Int) (F : List FnD), ivF U v F = F.map (ivR U v)
 | [], F => by
   have : ivR [] v = id := by funext f; simp [ivR]
   rw [this]; simp [ivF]
 | x :: r, F => by
   show ivF r v (F.map (hgR x v)) = _
   rw [zdR v r, List.map_map]
   apply List.map_congr_left
   intro f _
   exact znM x r v f
theorem zor (y : NodeD) : ∀ (U : List Int) (N : List NodeD) (hU : ∀ x ∈ U, 0 <= x) {a : Nat}, a < N.length -> nAt (ivS U y N) (a : Int) = if U.contains (a : Int) then y else nAt N (a : Int)
 | [], N, _, a, h => rfl
 | x :: r, N, hU, a, h => by
   show nAt (ivS r y (N.set x.toNat y)) (a : Int) = _
   rw [zor y r _ (fun z hz => hU z (List.mem_cons_of_mem _ hz)) (by simpa using h), zpa h]
   have h0 := hU x List.mem_cons_self
   by_cases hx : (a : Int) = x
   · have e1 : x.toNat = a := by omega
     have e2 : (x :: r).contains (a : Int) = true := by rw [List.contains_cons, hx]; simp
     rw [if_pos e1, e2]
     simp
   · have e1 : ¬ x.toNat = a := by omega
     have e2 : (x :: r).contains (a : Int) = r.contains (a : Int) := by
       rw [List.contains_cons]
       have : ((a : Int) == x) = false := by simpa using hx
       rw [this, Bool.false_or]
     rw [if_neg e1, e2]
theorem zmh {N : List NodeD} (g : NodeD -> NodeD) {a : Nat} (h : a < N.length) : nAt (N.map g) (a : Int) = g (nAt N (a : Int)) := by
 rw [zF (by simpa using h), zF h, List.getElem_map]
theorem zhI (f : Int -> Int) (t : Int) : ∀ l : List Int, (∀ q ∈ l, f q = t ↔ q = t) -> (l.map f).erase t = (l.erase t).map f
 | [], _ => rfl
 | q :: r, h => by
   have h1 := h q List.mem_cons_self
   have h2 := zhI f t r (fun z hz => h z (List.mem_cons_of_mem _ hz))
   rw [List.map_cons, List.erase_cons, List.erase_cons]
   by_cases hq : q = t
   · have e1 : (f q == t) = true := by simpa using h1.2 hq
     have e2 : (q == t) = true := by simpa using hq
     rw [e1, e2]; rfl
   · have e1 : (f q == t) = false := by simpa using fun e => hq (h1.1 e)
     have e2 : (q == t) = false := by simpa using hq
     rw [e1, e2]
     simp only [Bool.false_eq_true, if_false, List.map_cons, h2]
theorem zcQ {p : ProgramD} {fn : Int} {s : ByteArray} {x : Int} (h : x ∈ xA p fn s) : 0 <= x /\ x.toNat < p.nodes.length /\ xj (nAt p.nodes x).kind = true /\ (nAt p.nodes x).name = s := by
 unfold xA at h
 obtain ⟨h1, h2⟩ := List.mem_filter.1 h
 obtain ⟨h3, h4⟩ := zjT (List.contains_iff_mem.2 h1)
 obtain ⟨h5, h6⟩ := Bool.and_eq_true_iff.1 h2
 exact ⟨h3, h4, h5, of_decide_eq_true h6⟩
theorem zjt {p : ProgramD} (hD : Deep p.nodes) {a t : Nat} (ha : a < p.nodes.length) (ht : t < p.nodes.length) (h13 : p.nodes[t].kind = 13) (hk : ¬ p.nodes[a].kind = 20) : (t : Int) ∉ p.nodes[a].kids := fun hmem => by
 have hx := Zn p.nodes a (hD.deep a ha)
 simp only [ZC, Bool.and_eq_true, Xc] at hx
 obtain ⟨_, _, _, _, _, hkb⟩ := hx
 rw [zF ha] at hkb
 obtain ⟨j, hj, hje⟩ := List.getElem_of_mem hmem
 have := yn.1 hkb j hj
 unfold kidB at this
 have h3 := (Bool.and_eq_true_iff.1 (Bool.and_eq_true_iff.1 this).2).2
 rw [List.getD_eq_getElem?_getD, List.getElem?_eq_getElem hj, Option.getD_some, hje, zF ht, h13] at h3
 unfold yC at h3
 have h20 : (p.nodes[a].kind == 20) = false := by simpa using hk
 rw [h20] at h3
 revert h3
 simp only [Bool.false_eq_true, if_false]
 split
 · decide
 · split
   · decide
   · decide
theorem znE {p : ProgramD} {f t v : Nat} {s : ByteArray} (h : LetIs p f s t v) {U : List Int} (hU : ∀ x ∈ U, 0 <= x /\ x.toNat < p.nodes.length /\ xj (nAt p.nodes x).kind = true /\ (nAt p.nodes x).name = s) : Xu (ivPA p U v t) = Xu (ivPB p U v t) := by
 have hD := h.right.deep
 have ht := h.ht
 have hvt := h.hv
 have hvl : v < p.nodes.length := by omega
 have hvU : (v : Int) ∉ U := fun hh => by
   obtain ⟨_, _, h3, h4⟩ := hU _ hh
   rw [zF hvl] at h3 h4
   exact h.own ⟨h3, h4⟩
 have hkU : ∀ q ∈ p.nodes[v].kids, q ∉ U := fun q hq hh => by
   have hk := hD.kid hvl q hq
   obtain ⟨q, rfl⟩ : ∃ z : Nat, q = z := ⟨q.toNat, by omega⟩
   obtain ⟨_, _, h3, h4⟩ := hU _ hh
   exact h.kid q hq ⟨h3, h4⟩
 have htU : (t : Int) ∉ U := fun hh => by
   obtain ⟨_, _, h3, h4⟩ := hU _ hh
   rw [zF ht, h.kind] at h3
   revert h3; decide
 have hvb : ¬ p.nodes[v].kind = 20 := fun e => by
   have := h.val
   rw [e] at this
   revert this; decide
 have hvt2 : (t : Int) ∉ p.nodes[v].kids := zjt hD hvl ht h.kind hvb
 let R : Int -> Int -> Prop := fun a c => (a = c /\ a ∉ U) \/ (a = (v : Int) /\ c ∈ U)
 have lA : (ivPA p U v t).nodes.length = p.nodes.length := by simp [ivPA, ZK]
 have lB : (ivPB p U v t).nodes.length = p.nodes.length := by simp [ivPB, ZJ]
 have atA : ∀ a : Nat, a < p.nodes.length -> nAt (ivPA p U v t).nodes (a : Int) = cutX t ⟨(nAt p.nodes a).kind, (nAt p.nodes a).num, (nAt p.nodes a).name, (nAt p.nodes a).kids.map (hgS U v a)⟩ := fun a ha => by
   unfold ivPA
   rw [zmh _ (by rw [ZK]; exact ha), zos v U _ ha]
 have atB : ∀ a : Nat, a < p.nodes.length -> nAt (ivPB p U v t).nodes (a : Int) = cutY t (if U.contains (a : Int) then nAt p.nodes v else nAt p.nodes a) := fun a ha => by
   unfold ivPB
   rw [zmh _ (by rw [ZJ]; exact ha), zor _ U _ (fun x hx => (hU x hx).1) ha]
 have one : ∀ (a : Nat) (q : Int), a ≠ v -> R (hgS U v a q) q := fun a q hne => by
   unfold hgS
   have h3 : ((a : Int) == (v : Int)) = false := by simp; omega
   rw [h3]
   cases hc : U.contains q with
   | true => exact Or.inr ⟨by simp, List.contains_iff_mem.1 hc⟩
   | false => exact Or.inl ⟨by simp, by simp; intro hh; rw [List.contains_iff_mem.2 hh] at hc; cases hc⟩
 have idv : ∀ l : List Int, l.map (hgS U v v) = l := fun l => by
   have : hgS U v v = id := by funext q; simp [hgS]
   rw [this]; simp
 have keyv : cutX t ⟨(nAt p.nodes v).kind, (nAt p.nodes v).num, (nAt p.nodes v).name, (nAt p.nodes v).kids.map (hgS U v v)⟩ = p.nodes[v] /\ cutY t (nAt p.nodes v) = p.nodes[v] := by
   rw [zF hvl, idv]
   refine ⟨?_, ?_⟩
   · unfold cutX
     simp only
     rw [List.erase_of_not_mem hvt2]
   · unfold cutY
     have : (p.nodes[v].kind == 20) = false := by simpa using hvb
     rw [this]; rfl
 have key : ∀ d a c, R a c -> simN (ivPA p U v t).nodes (ivPB p U v t).nodes d a c := by
   refine zlD (R := R) (fun a c hr => ?_)
   rw [lA, lB]
   rcases hr with ⟨rfl, h1⟩ | ⟨rfl, h1⟩
   · refine ⟨rfl, fun hi => ?_⟩
     have hr := zx hi
     obtain ⟨n, rfl⟩ : ∃ n : Nat, a = n := ⟨a.toNat, by omega⟩
     have hn : n < p.nodes.length := by omega
     have hcf : U.contains (n : Int) = false := by
       cases hc : U.contains (n : Int) with
       | false => rfl
       | true => exact absurd (List.contains_iff_mem.1 hc) h1
     rw [atA n hn, atB n hn, hcf]
     simp only [Bool.false_eq_true, if_false]
     by_cases hv : n = v
     · subst hv
       rw [keyv.1, keyv.2]
       refine ⟨rfl, rfl, rfl, rfl, fun j x y hx hy => ?_⟩
       rw [hx] at hy; cases hy
       exact Or.inl ⟨rfl, hkU x (List.mem_of_getElem? hx)⟩
     · have hfe : ∀ q ∈ (nAt p.nodes n).kids, hgS U v n q = t ↔ q = t := fun q _ => by
         have h3 : ((n : Int) == (v : Int)) = false := by simp; omega
         unfold hgS
         rw [h3]
         cases hc : U.contains q with
         | false => simp
         | true =>
           simp only [Bool.not_false, Bool.and_self, if_true]
           constructor
           · intro e; omega
           · intro e
             subst e
             exact absurd (List.contains_iff_mem.1 hc) htU
       have hB : cutY t (nAt p.nodes n) = ⟨(nAt p.nodes n).kind, (nAt p.nodes n).num, (nAt p.nodes n).name, (nAt p.nodes n).kids.erase t⟩ := by
         rw [zF hn]
         unfold cutY
         by_cases h20 : p.nodes[n].kind = 20
         · have : (p.nodes[n].kind == 20) = true := by simpa using h20
           rw [this, if_pos rfl, (hD.nodup _ (List.getElem_mem hn)).erase_eq_filter]
         · have : (p.nodes[n].kind == 20) = false := by simpa using h20
           rw [this, List.erase_of_not_mem (zjt hD hn ht h.kind h20)]
           rfl
       rw [hB]
       unfold cutX
       simp only
       rw [zhI _ _ _ hfe]
       refine ⟨trivial, trivial, trivial, by simp, fun j x y hx hy => ?_⟩
       rw [List.getElem?_map, hy, Option.map_some, Option.some.injEq] at hx
       subst hx
       exact one n y hv
   · obtain ⟨c0, c1, _, _⟩ := hU c h1
     obtain ⟨c, rfl⟩ : ∃ n : Nat, c = n := ⟨c.toNat, by omega⟩
     simp only [Int.toNat_natCast] at c1
     refine ⟨by simp [inI]; omega, fun hi => ?_⟩
     rw [atA v hvl, atB c c1, List.contains_iff_mem.2 h1, if_pos rfl, keyv.1, keyv.2]
     refine ⟨rfl, rfl, rfl, rfl, fun j x y hx hy => ?_⟩
     rw [hx] at hy; cases hy
     exact Or.inl ⟨rfl, hkU x (List.mem_of_getElem? hx)⟩
 refine znr (by simp [ivPA, ivPB, zdR]) (fun j f' g hf hg => ?_)
 have hfe : (ivPA p U v t).fns = p.fns.map (ivR U v) := by simp [ivPA, zdR]
 have hge : (ivPB p U v t).fns = p.fns := rfl
 rw [hge] at hg
 rw [hfe, List.getElem?_map, hg, Option.map_some, Option.some.injEq] at hf
 subst hf
 obtain ⟨hj, rfl⟩ := List.getElem?_eq_some_iff.1 hg
 have hok := h.right.fn j hj
 obtain ⟨⟨b0, b1⟩, hret⟩ := xT hok
 have hbU : p.fns[j].body ∉ U := fun hh => by
   obtain ⟨_, _, h3, _⟩ := hU _ hh
   simp only [YV, Bool.and_eq_true, zaD] at hok
   have hkd : (nAt p.nodes p.fns[j].body).kind = 20 := by simpa using hok.2.2.2.2.1.2
   rw [hkd] at h3
   revert h3; decide
 unfold ivR
 cases hc : U.contains p.fns[j].ret with
 | true =>
   have hm := List.contains_iff_mem.1 hc
   have := (hU _ hm).1
   rw [if_pos rfl]
   exact ⟨rfl, rfl, rfl, key 10 _ _ (Or.inl ⟨rfl, hbU⟩), by simp only; omega, fun _ => key 10 _ _ (Or.inr ⟨rfl, hm⟩), fun hh => absurd (by simp only; omega) hh⟩
 | false =>
   rw [if_neg (by simp)]
   refine ⟨rfl, rfl, rfl, key 10 _ _ (Or.inl ⟨rfl, hbU⟩), Iff.rfl, fun _ => key 10 _ _ (Or.inl ⟨rfl, fun hh => ?_⟩), fun _ => rfl⟩
   rw [List.contains_iff_mem.2 hh] at hc; cases hc
def zif (p : ProgramD) (s : ByteArray) (k : Int) : Bool := xj (nAt p.nodes k).kind && decide ((nAt p.nodes k).name = s)
noncomputable def Yo (p : ProgramD) (s : ByteArray) (l : List Int) : List Int := l.filter (zif p s)
theorem zeQ (p : ProgramD) (s : ByteArray) {l : List Int} {i : Nat} (h : i < l.length) : Yo p s (l.take (i + 1)) = Yo p s (l.take i) ++ (if zif p s l[i] then [l[i]] else []) := by
 unfold Yo
 rw [List.take_succ_eq_append_getElem h, List.filter_append]
 cases hu : zif p s l[i] with
 | true => simp [hu]
 | false => simp [hu]
theorem Zo (p : ProgramD) (s : ByteArray) (l : List Int) : (Yo p s l).length <= l.length := List.length_filter_le _ _
theorem zie (k : Int) : zu Tryz.prog 153 [.ro (.sc (.int .i64 k))] (fun rs st => rs = [(false, [cB (xj k)])]) := by
 have e : xj k = (k == 2 || (k == 3 || (k == 4 || (k == 5 || (k == 6 || (k == 14 || k == 15)))))) := by
   unfold xj inI
   by_cases h : 2 <= k /\ k <= 6
   · rcases (show k = 2 \/ k = 3 \/ k = 4 \/ k = 5 \/ k = 6 by omega) with rfl | rfl | rfl | rfl | rfl <;> decide
   · have h1 : (k == 2) = false := by simp; omega
     have h2 : (k == 3) = false := by simp; omega
     have h3 : (k == 4) = false := by simp; omega
     have h4 : (k == 5) = false := by simp; omega
     have h5 : (k == 6) = false := by simp; omega
     have h6 : (decide (2 <= k) && decide (k <= 6)) = false := by
       rw [<- Bool.decide_and]; exact decide_eq_false h
     simp only [h1, h2, h3, h4, h5, h6, Bool.false_or]
 refine zo (fn := Tryz.f153) (c := Tryz.f153.body.getD .skip) (res := [.tm 2]) (n := 12) zf (by kernel_rfl) (by rfl) (by kernel_rfl) (by rfl) (by rfl) (by simp [zp]) (fun C hpin hfull => ?_)
 rw [e]
 cases h2 : k == 2 with
 | true => simp +decide only [Tryz.f153, h2, Bool.true_or, zt, zb, za, hpin, go_sem, reduceAdd, reduceMul]
 | false =>
 cases h3 : k == 3 with
 | true => simp +decide only [Tryz.f153, h2, h3, Bool.true_or, Bool.false_or, zt, zb, za, hpin, go_sem, reduceAdd, reduceMul]
 | false =>
 cases h4 : k == 4 with
 | true => simp +decide only [Tryz.f153, h2, h3, h4, Bool.true_or, Bool.false_or, zt, zb, za, hpin, go_sem, reduceAdd, reduceMul]
 | false =>
 cases h5 : k == 5 with
 | true => simp +decide only [Tryz.f153, h2, h3, h4, h5, Bool.true_or, Bool.false_or, zt, zb, za, hpin, go_sem, reduceAdd, reduceMul]
 | false =>
 cases h6 : k == 6 with
 | true => simp +decide only [Tryz.f153, h2, h3, h4, h5, h6, Bool.true_or, Bool.false_or, zt, zb, za, hpin, go_sem, reduceAdd, reduceMul]
 | false =>
 cases h7 : k == 14 with
 | true => simp +decide only [Tryz.f153, h2, h3, h4, h5, h6, h7, Bool.true_or, Bool.false_or, zt, zb, za, hpin, go_sem, reduceAdd, reduceMul]
 | false =>
 cases h8 : k == 15 with
 | true => simp +decide only [Tryz.f153, h2, h3, h4, h5, h6, h7, h8, Bool.true_or, Bool.false_or, zt, zb, za, hpin, go_sem, reduceAdd, reduceMul]
 | false => simp +decide only [Tryz.f153, h2, h3, h4, h5, h6, h7, h8, Bool.true_or, Bool.false_or, zt, zb, za, hpin, go_sem, reduceAdd, reduceMul]
theorem zft (p : ProgramD) (fn : Int) (s : ByteArray) (hf : p.fns.length <= 1048576) (hn : p.nodes.length <= 1048576) (hk : ∀ x ∈ p.nodes, x.kids.length <= 1048576) : zu Tryz.prog 84 [.ro (zb p), .ro (.sc (.int .i64 fn)), .ro (.sc (.string s))] (fun rs st => rs = [(false, [.row false 3 (row1 cI (xA p fn s))])]) := by
 have hfs := zbq p fn hf hn hk
 have hll := Zl p fn
 have hnode := fun i h => zbp p fn (i := i) h
 have hres : xA p fn s = Yo p s (fnNs p fn) := rfl
 simp only [zb] at hfs
 refine zm (fn := Tryz.f84) (c := Tryz.f84.body.getD .skip) (res := [.tm 6]) (n := 39) zf (by kernel_rfl) (by rfl) (by kernel_rfl) (by rfl) (by rfl) (by simp [zp]) (fun uf ub C hpin hpin2 hfull => ?_)
 simp only [Tryz.f84, Option.getD_some]
 refine Tri.step zf ?_
 simp +decide only [zt, zb, za, hpin, go_sem, reduceAdd, reduceMul]
 refine Tri.ent ?_ (Ent.frb hfull 3)
 refine Tri.step zf ?_
 simp +decide only [zt, zb, za, hpin, go_sem, reduceAdd, reduceMul]
 refine Tri.step zf ?_
 simp +decide only [zt, zb, za, hpin, go_sem, reduceAdd, reduceMul]
 refine zd hfs hpin ?_
 rw [hres]
 generalize fnNs p fn = L at hll hnode |-
 have htk : List.take L.length (row1 cI L) = row1 cI L := yx cI L
 simp +decide only [zt, zb, za, hpin, go_sem, reduceAdd, reduceMul]
 refine Tri.loop (ι := Nat) (fun i => i <= L.length) (fun i => ⟨39, [(2, vS s), (3, .ip (za true p) 0), (7, .ref 7 [] (Yo p s (L.take i)).length), (13, .ref 3013 [] L.length), (14, vI L.length), (15, vI i)], [(3013, .row 3 (row1 cI L)), (7, .row 3 (row1 cI (Yo p s (L.take i))))]⟩) (fun i => L.length - i) 0 (by simp) ?_ ?_
 · refine Ent.weak ?_ ?_ ?_ ?_ <;> simp +decide [zR, yA, subT, subB, zk, zj, zl, St.get, look, vI, vB, vS, cI, cS, cB, zg, fnC, zr, za, roI, Yo, row1]
 · rintro i hi
   refine ze zf _ ?_
   by_cases h' : i < L.length
   · have e : ((i : Int) < (L.length : Int)) = True := by simp [h']
     obtain ⟨k0, k1⟩ := hnode i h'
     obtain ⟨k, hke⟩ : ∃ k : Nat, L[i] = k := ⟨L[i].toNat, by omega⟩
     rw [hke] at k1
     rw [Int.toNat_natCast] at k1
     have ck : ((k : Int) < (p.nodes.length : Int)) = True := eq_true (by omega)
     have hxk : (rows (zg true) p.nodes).getD k [] = zg true p.nodes[k] := zh _ _ k1
     have hnx := zeQ p s h'
     have hlen : (Yo p s (L.take i)).length <= i := by
       have := Zo p s (L.take i); simp at this; omega
     have hb1 : (Yo p s (L.take i)).length + 1 <= 140737488355328 := by omega
     have hb2 : ((Yo p s (L.take i)).length + 1) * 8 <= 140737488355328 := by omega
     have hsn := xC cI (Yo p s (L.take i)) L[i]
     rw [hke] at hnx hsn
     have hua : zif p s (k : Int) = (xj p.nodes[k].kind && decide (p.nodes[k].name = s)) := by unfold zif; rw [zF k1]
     rw [hua] at hnx
     have hgi : (row1 cI L)[i]? = some [.sc (.int .i64 k)] := by rw [yd _ _ h', hke]; rfl
     have hus := zbG p.nodes[k].kind
     simp only [cI, cB] at hsn hus
     simp +decide only [e, h', hgi, ck, k1, hxk, zg, Int.natCast_nonneg, vB, vI, vS, zt, zb, za, hpin, go_sem, reduceAdd, reduceMul]
     refine zd hus hpin ?_
     cases h1 : xj p.nodes[k].kind with
     | false =>
       rw [h1] at hnx
       simp only [Bool.false_and, Bool.false_eq_true, if_false, List.append_nil] at hnx
       simp +decide only [vB, vI, vS, zt, zb, za, hpin, go_sem, reduceAdd, reduceMul]
       refine ⟨i + 1, h', by omega, Ent.weak ?_ ?_ ?_ ?_⟩
       all_goals simp +decide [zR, yA, subT, subB, zk, zj, zl, St.get, look, vI, vB, vS, cI, cS, cB, zg, fnC, zr, za, roI, hnx, w64s (n := L.length) h' (by omega)]
     | true =>
       by_cases h2 : p.nodes[k].name = s
       · rw [h1, decide_eq_true h2] at hnx
         simp only [Bool.and_self, if_true] at hnx
         simp +decide only [h2, hb1, hb2, hsn, vB, vI, vS, zt, zb, za, hpin, go_sem, reduceAdd, reduceMul]
         refine ⟨i + 1, h', by omega, Ent.weak ?_ ?_ ?_ ?_⟩
         all_goals simp +decide [zR, yA, subT, subB, zk, zj, zl, St.get, look, vI, vB, vS, cI, cS, cB, zg, fnC, zr, za, roI, hnx, w64s (n := L.length) h' (by omega)]
       · rw [h1, decide_eq_false h2] at hnx
         simp only [Bool.and_false, Bool.false_eq_true, if_false, List.append_nil] at hnx
         simp +decide only [h2, vB, vI, vS, zt, zb, za, hpin, go_sem, reduceAdd, reduceMul]
         refine ⟨i + 1, h', by omega, Ent.weak ?_ ?_ ?_ ?_⟩
         all_goals simp +decide [zR, yA, subT, subB, zk, zj, zl, St.get, look, vI, vB, vS, cI, cS, cB, zg, fnC, zr, za, roI, hnx, w64s (n := L.length) h' (by omega)]
   · have hil : i = L.length := by omega
     subst hil
     have e : ((L.length : Int) < (L.length : Int)) = False := by simp
     simp +decide only [e, vB, vI, vS, zt, zb, za, hpin, go_sem, reduceAdd, reduceMul]
     refine ze zf _ ?_
     simp +decide only [zt, zb, za, hpin, go_sem, reduceAdd, reduceMul]
structure WalkH (nodes : List NodeD) (s : Nat) (l : List Nat) (i : Nat) : Prop where
 reach : ∀ x ∈ l, RB nodes s x
 root : ∃ r, l = s :: r /\ ∀ m ∈ r, m < s
 done : ∀ p (hp : p < l.length), p < i -> ∀ (hl : l[p] < nodes.length), ∀ kid ∈ nodes[l[p]].kids, (nAt nodes kid).kind ≠ 20 -> kid.toNat ∈ l
 le : i <= l.length
 few : i + Ws nodes (l.drop i) <= W nodes s
structure StepIs (p : ProgramD) (k b i s : Nat) : Prop where
 hk : k < p.nodes.length
 val : xw p.nodes[k].kind = true
 hb : b < p.nodes.length
 blk : p.nodes[b].kind = 20
 hi : i < p.nodes[b].kids.length
 hs : p.nodes[b].kids[i] = s
 hsl : s < p.nodes.length
 rb : RB p.nodes s k
theorem zfr (l : List VarD) : shLL (rows (varC false) l) = rows (varC true) l := by
 rw [yN]
 simp only [rows, List.map_map]
 apply List.map_congr_left
 intro x _
 simp [varC, shL, shD, cI, cS]
def St.nilS (o : Nat) (p : List (Nat × Nat)) (e : TypeId) (st : St) : St := match look st.ob o with
 | some x => (match subO x p with
   | some (.sc (.slice none 0 0)) => st.swap o (setO x p (.row false e []))
   | _ => st)
 | none => st
section
variable {P : Program} {w w1 : World} {C : Cx} {X : Nat -> Prop} {gh gh1 : Gh} {st : St} {a : Act} {v : Value} {u : Value} {ob : List (Nat × Ob)} {S : Nat -> Prop} {K : St -> Prop}
end
attribute [go_sem] St.nilS
structure ExM (p : ProgramD) (k b i : Nat) (s : ByteArray) (v : Value) (M1 M2 M3 : List NodeD) : Prop where
 l1 : M1.length = p.nodes.length + 1
 l2 : M2.length = p.nodes.length + 2
 l3 : M3.length = p.nodes.length + 2
 e1 : ∀ h : k < p.nodes.length, zkv (upH (fun _ => none) k v) p.nodes ++ [[D.sc (.int .i64 p.nodes[k].kind), .sc (.int .i64 p.nodes[k].num), .sc (.string p.nodes[k].name), .sc v]] = zkv (upH (upH (fun _ => none) k v) p.nodes.length v) M1
 e2 : zkv (upH (upH (fun _ => none) k v) p.nodes.length v) M1 ++ [[D.sc (.int .i64 13), .sc (.int .i64 0), .sc (.string s), .row false 3 [[.sc (.int .i64 p.nodes.length)]]]] = zkv (upH (upH (fun _ => none) k v) p.nodes.length v) M2
 e3 : (zkv (upH (upH (fun _ => none) k v) p.nodes.length v) M2).set k [D.sc (.int .i64 2), .sc (.int .i64 0), .sc (.string s), .sc (.slice none 0 0)] = zkv (upH (upH (fun _ => none) p.nodes.length v) k (.slice none 0 0)) M3
 n0 : ∀ (h : k < p.nodes.length) (h2 : p.nodes.length < M3.length), M3[p.nodes.length].kids = p.nodes[k].kids
 nk : ∀ h : k < M3.length, M3[k].kids = []
 nb : ∀ (h : b < p.nodes.length) (h2 : b < M3.length), M3[b] = p.nodes[b]
 out : exPB p k b i s = ⟨zqA M3 b i (p.nodes.length + 1), p.fns⟩
 few : ∀ x ∈ (exPB p k b i s).nodes, x.kids.length <= 13
theorem zkV {p : ProgramD} {fn : Int} (hR : zW p = true) (h0 : inI fn 0 (p.fns.length - 1) = true) : zaM p fn = true := by
 have hr := zx h0
 obtain ⟨f, rfl⟩ : ∃ f : Nat, fn = f := ⟨fn.toNat, by omega⟩
 have h1 := (Xs hR).2 f (by omega)
 unfold zW at hR
 unfold yZ at h1
 unfold zaM
 rw [(Bool.and_eq_true_iff.1 hR).1, h0, (Bool.and_eq_true_iff.1 h1).1]
 rfl
noncomputable def ivX (p : ProgramD) (fn : Int) (s : ByteArray) : VarD := (zL p fn).getD (yp (zL p fn) s).toNat vr0
noncomputable def ivNm (p : ProgramD) (fn : Int) (s : ByteArray) : Bool := decide (0 <= yp (zL p fn) s) && (decide (0 <= (ivX p fn s).node) && (ivX p fn s).ty == 1)
noncomputable def ziK (p : ProgramD) (fn : Int) (s : ByteArray) : Int := (nAt p.nodes (ivX p fn s).node).kids.getD 0 0
noncomputable def setP (p : ProgramD) (fn : Int) (s : ByteArray) : Bool := (fnNs p fn).any (fun x => (nAt p.nodes x).kind == 14 && decide ((nAt p.nodes x).name = s))
noncomputable def ziM (p : ProgramD) (fn : Int) (s : ByteArray) (v : Int) : Bool := setP p fn s || (zI p.nodes v).any (fun x => !decide ((nAt p.nodes x).name = ⟨#[]⟩) && setP p fn (nAt p.nodes x).name)
noncomputable def zeG (p : ProgramD) (fn : Int) (s : ByteArray) : Bool := Zf p.nodes true (ziK p fn s) && !ziM p fn s (ziK p fn s)
noncomputable def zkT (p : ProgramD) (fn : Int) (s : ByteArray) : ProgramD := ivPA p (xA p fn s) (ziK p fn s) (ivX p fn s).node
noncomputable def xp (p : ProgramD) (fn : Int) (s : ByteArray) : Int := if zW p && inI fn 0 (p.fns.length - 1) then (if ivNm p fn s then (if zeG p fn s then zgk (zkT p fn s) else 4) else 2) else 1
noncomputable def ivP (p : ProgramD) (fn : Int) (s : ByteArray) : ProgramD := if zW p && inI fn 0 (p.fns.length - 1) then (if ivNm p fn s then (if zeG p fn s then finP p (zkT p fn s) else p) else p) else p
def namL (p : ProgramD) (s : ByteArray) (l : List Int) : List ByteArray := s :: l.map (fun x => (nAt p.nodes x).name)
theorem zmg (p : ProgramD) (s : ByteArray) {l : List Int} {i : Nat} (h : i < l.length) : namL p s (l.take (i + 1)) = namL p s (l.take i) ++ [(nAt p.nodes l[i]).name] := by
 unfold namL
 rw [List.take_succ_eq_append_getElem h, List.map_append]; rfl
def hitP (p : ProgramD) (nm : List ByteArray) (x : Int) : Bool := (nAt p.nodes x).kind == 14 && yD nm (nAt p.nodes x).name
theorem znx {s : ByteArray} (h : Yx s = true) : s ≠ ⟨#[]⟩ := fun e => by
 subst e
 unfold Yx at h
 have := zx (Bool.and_eq_true_iff.1 h).1
 have e0 : (⟨#[]⟩ : ByteArray).size = 0 := rfl
 rw [e0] at this
 omega
theorem znd {p : ProgramD} (hD : Deep p.nodes) {fn x : Int} (hx : x ∈ fnNs p fn) (h14 : (nAt p.nodes x).kind = 14) : (nAt p.nodes x).name ≠ ⟨#[]⟩ := by
 obtain ⟨h0, h1⟩ := zjT (List.contains_iff_mem.2 hx)
 obtain ⟨n, rfl⟩ : ∃ n : Nat, x = n := ⟨x.toNat, by omega⟩
 simp only [Int.toNat_natCast] at h1
 have hb := Zn p.nodes n (hD.deep n h1)
 simp only [ZC, Bool.and_eq_true, Xc] at hb
 obtain ⟨_, _, _, _, hn, _⟩ := hb
 unfold Yi at hn
 rw [h14] at hn
 have e : yk 14 = true := by decide
 rw [e, if_pos rfl] at hn
 exact znx hn
theorem ziL {p : ProgramD} (hD : Deep p.nodes) (fn : Int) (s : ByteArray) (v : Int) : ziM p fn s v = (fnNs p fn).any (hitP p (namL p s (zI p.nodes v))) := by
 rw [Bool.eq_iff_iff]
 unfold ziM setP hitP
 simp only [Bool.or_eq_true, List.any_eq_true, Bool.and_eq_true, Bool.not_eq_true', decide_eq_true_eq, decide_eq_false_iff_not, beq_iff_eq]
 constructor
 · rintro (⟨x, hx, h1, h2⟩ | ⟨y, hy, hne, x, hx, h1, h2⟩)
   · refine ⟨x, hx, h1, ?_⟩
     unfold yD namL
     rw [List.any_eq_true]
     exact ⟨s, List.mem_cons_self, by simp [h2]⟩
   · refine ⟨x, hx, h1, ?_⟩
     unfold yD namL
     rw [List.any_eq_true]
     exact ⟨_, List.mem_cons_of_mem _ (List.mem_map.2 ⟨y, hy, rfl⟩), by simp [h2]⟩
 · rintro ⟨x, hx, h1, h2⟩
   have hm := zhW h2
   unfold namL at hm
   rcases List.mem_cons.1 hm with h3 | h3
   · exact Or.inl ⟨x, hx, h1, h3⟩
   · obtain ⟨y, hy, h4⟩ := List.mem_map.1 h3
     refine Or.inr ⟨y, hy, ?_, x, hx, h1, h4.symm⟩
     rw [h4]
     exact znd hD hx h1
theorem zmV {nodes : List NodeD} (hD : Deep nodes) {v : Nat} (h : v < nodes.length) : zI nodes (v : Int) = yU nodes v := by
 have h9 : inI (v : Int) 0 (nodes.length - 1) = true := by simp [inI]; omega
 have h8 := hD.deep v h
 have h7 : (zQ nodes (v : Int) == 0) = false := by simp [zQ, h9, h8]
 unfold zI
 rw [h7]; rfl
theorem znG (v : Int) (N : List NodeD) {U : List Int} {j : Nat} (h : j < U.length) : ivN (U.take (j + 1)) v N = hgN U[j] v (ivN (U.take j) v N) := by
 unfold ivN
 rw [List.take_succ_eq_append_getElem h, List.foldl_append]; rfl
theorem znH (v : Int) (F : List FnD) {U : List Int} {j : Nat} (h : j < U.length) : ivF (U.take (j + 1)) v F = (ivF (U.take j) v F).map (hgR U[j] v) := by
 unfold ivF
 rw [List.take_succ_eq_append_getElem h, List.foldl_append]; rfl
theorem zgc {B : Nat} (v : Int) : ∀ (U : List Int) (N : List NodeD), (∀ x ∈ N, x.kids.length <= B) -> ∀ x ∈ ivN U v N, x.kids.length <= B
 | [], N, h => h
 | u :: r, N, h => by
   refine zgc v r (hgN u v N) (fun x hx => ?_)
   obtain ⟨i, hi, rfl⟩ := List.getElem_of_mem hx
   have hi2 : i < N.length := by rw [YA] at hi; exact hi
   rw [ziP _ _ _ hi2]
   simp only [hgX, List.length_map]
   exact h _ (List.getElem_mem hi2)
theorem zfb (v : Int) (U : List Int) (F : List FnD) : (ivF U v F).length = F.length := by rw [zdR]; simp
theorem zkS {p : ProgramD} (hG : Right p) (U : List Int) (v t : Int) (hpl : ∀ f ∈ p.fns, f.params.length <= 1048576) : (ivPA p U v t).fns.length <= 1048576 /\ (ivPA p U v t).nodes.length <= 1048576 /\ (∀ x ∈ (ivPA p U v t).nodes, x.kids.length <= 1048576) /\ ∀ f ∈ (ivPA p U v t).fns, f.params.length <= 1048576 := by
 have h1 := hG.few
 have h2 := hG.fns
 have h3 := hG.deep.few
 refine ⟨by simp only [ivPA]; rw [zfb]; omega, by simp only [ivPA, List.length_map]; rw [ZK]; omega, fun x hx => ?_, fun f hf => ?_⟩
 · simp only [ivPA] at hx
   obtain ⟨y, hy, rfl⟩ := List.mem_map.1 hx
   have := zgc v U p.nodes h3 y hy
   have := List.length_erase_le (a := t) (l := y.kids)
   simp only [cutX]
   omega
 · simp only [ivPA] at hf
   rw [zdR] at hf
   obtain ⟨g, hg, rfl⟩ := List.mem_map.1 hf
   have := hpl g hg
   unfold ivR
   split <;> exact this
theorem znW {l : List Int} {t : Int} {j : Nat} (h : j < l.length) (he : l[j] = t) (hn : t ∉ l.take j) : l.take j ++ [] ++ l.drop (j + 1) = l.erase t := by
 have e : l = l.take j ++ t :: l.drop (j + 1) := by
   rw [<- he, List.getElem_cons_drop h, List.take_append_drop]
 rw [List.append_nil]
 conv => rhs; rw [e]
 rw [List.erase_append_right _ hn, List.erase_cons_head]
theorem zhN (L : List Int) (a b : Nat) (ha : a <= L.length) (hb : b <= L.length) (hL : L.length <= 1048576) : zu Tryz.prog 72 [.ro (roI L), .ro (.sc (.int .i64 a)), .ro (.sc (.int .i64 b)), .ro (.sc (.slice none 0 0))] (fun rs st => rs = [(false, [.row false 3 (row1 cI (L.take a ++ [] ++ L.drop b))])]) := by
 have hcp := zaj (L.take a) (by simp; omega)
 simp only [roI] at hcp
 have ha1 : ((a : Int) <= (L.length : Int)) = True := eq_true (by omega)
 have hb1 : ((b : Int) <= (L.length : Int)) = True := eq_true (by omega)
 have hl1 : (L.take a).length = a := by simp; omega
 have hl3 : (L.drop b).length = L.length - b := by simp
 have hl4 : (L.take a ++ L.drop b).length = a + (L.length - b) := by simp; omega
 have hf2 := zbm (L.drop b)
 have c0 : a <= 140737488355328 := by omega
 have c9 : a * 8 <= 140737488355328 := by omega
 have c3 : a + (L.length - b) <= 140737488355328 := by omega
 have c4 : (a + (L.length - b)) * 8 <= 140737488355328 := by omega
 rw [List.append_nil]
 refine zm (fn := Tryz.f72) (c := Tryz.f72.body.getD .skip) (res := [.tm 8]) (n := 21) zf (by kernel_rfl) (by rfl) (by kernel_rfl) (by rfl) (by rfl) (by simp [zp]) (fun uf ub C hpin hpin2 hfull => ?_)
 simp only [Tryz.f72, Option.getD_some]
 refine Tri.step zf ?_
 simp +decide only [zt, zb, za, hpin, go_sem, reduceAdd, reduceMul]
 refine Tri.step zf ?_
 simp +decide only [ha1, zoJ, Int.natCast_nonneg, zt, zb, za, hpin, hpin2, go_sem, reduceAdd, reduceMul]
 refine zd hcp hpin ?_
 simp +decide only [hl1, c0, c9, zlL, zt, zb, za, hpin, hpin2, go_sem, reduceAdd, reduceMul]
 refine ze zf _ ?_
 simp +decide only [hb1, hl1, hl3, hl4, hf2, c3, c4, zoL, zlL, Int.natCast_nonneg, Int.le_refl, zt, zb, za, hpin, hpin2, go_sem, reduceAdd, reduceMul]
theorem zcv (p : ProgramD) (fn : Int) (s : ByteArray) (hf : p.fns.length <= 1048576) (hn : p.nodes.length <= 1048576) (hk : ∀ x ∈ p.nodes, x.kids.length <= 1048576) (hpl : ∀ f ∈ p.fns, f.params.length <= 1048576) :
   zu Tryz.prog 27 [.ro (zb p), .ro (.sc (.int .i64 fn)), .ro (.sc (.string s))] (fun rs st => rs = [(true, za false (ivP p fn s)), (false, [cI (xp p fn s)])]) := by
 have w1 : IntKind.i64.wrap ((p.fns.length : Int) - 1) = (p.fns.length : Int) - 1 := w64 (by omega) (by omega)
 have htr := Yr p hf hn hk hpl
 have hcp := YD p hf hn hk hpl
 simp only [zb, za] at htr hcp
 refine zm (fn := Tryz.f27) (c := Tryz.f27.body.getD .skip) (res := [.ce 6 36, .tm 7]) (n := 187) zf (by kernel_rfl) (by rfl) (by kernel_rfl) (by rfl) (by rfl) (by simp [zp]) (fun uf ub C hpin hpin2 hfull => ?_)
 simp only [Tryz.f27, Option.getD_some]
 refine Tri.step zf ?_
 simp +decide only [zt, zb, za, hpin, go_sem, reduceAdd, reduceMul]
 refine Tri.ent ?_ (Ent.frb hfull 3)
 refine Tri.step zf ?_
 simp +decide only [zt, zb, za, hpin, go_sem, reduceAdd, reduceMul]
 refine zd htr hpin ?_
 cases hR : zW p with
 | false =>
   have e1 : ivP p fn s = p := by unfold ivP; rw [hR]; rfl
   have e2 : xp p fn s = 1 := by unfold xp; rw [hR]; rfl
   simp +decide only [zt, zb, za, hpin, go_sem, reduceAdd, reduceMul]
   refine zd hcp hpin ?_
   simp +decide only [e1, e2, zt, zb, za, hpin, go_sem, reduceAdd, reduceMul]
 | true =>
 simp +decide only [w1, zt, zb, za, hpin, go_sem, reduceAdd, reduceMul]
 refine zd (in' fn 0 (p.fns.length - 1)) hpin ?_
 cases h0 : inI fn 0 (p.fns.length - 1) with
 | false =>
   have e1 : ivP p fn s = p := by unfold ivP; rw [hR, h0]; rfl
   have e2 : xp p fn s = 1 := by unfold xp; rw [hR, h0]; rfl
   simp +decide only [zt, zb, za, hpin, go_sem, reduceAdd, reduceMul]
   refine zd hcp hpin ?_
   simp +decide only [e1, e2, zt, zb, za, hpin, go_sem, reduceAdd, reduceMul]
 | true =>
 have hr := zx h0
 obtain ⟨f, rfl⟩ : ∃ f : Nat, fn = f := ⟨fn.toNat, by omega⟩
 have hfl : f < p.fns.length := by omega
 have hG := yh (Xs hR).1
 have hD := hG.deep
 have hk3 : ∀ x ∈ p.nodes, x.kids.length <= 300 := fun x hx => by have := hD.few x hx; omega
 have hvl := Zz p f hpl hn
 have hts := zac p hD f hf hn hk3 hpl
 have hva := Xk (zL p f) s (by omega)
 simp only [zb, za, cI] at hts hva
 simp +decide only [zt, zb, za, hpin, go_sem, reduceAdd, reduceMul]
 refine Tri.step zf ?_
 simp +decide only [zt, zb, za, hpin, go_sem, reduceAdd, reduceMul]
 refine zd hts hpin ?_
 simp +decide only [zt, zb, za, hpin, go_sem, reduceAdd, reduceMul]
 refine Tri.ent ?_ (Ent.frz hfull 8)
 refine Tri.step zf ?_
 simp +decide only [zfr, zt, zb, za, hpin, go_sem, reduceAdd, reduceMul]
 refine zd hva hpin ?_
 simp +decide only [zt, zb, za, hpin, go_sem, reduceAdd, reduceMul]
 refine Tri.step zf ?_
 have hno : ivNm p f s = false -> ivP p f s = p /\ xp p f s = 2 := fun hw => by
   refine ⟨?_, ?_⟩
   · unfold ivP; rw [hR, h0, hw]; rfl
   · unfold xp; rw [hR, h0, hw]; rfl
 by_cases hV : 0 <= yp (zL p f) s
 case neg =>
   have hV3 : (yp (zL p f) s < 0) = True := eq_true (by omega)
   obtain ⟨e1, e2⟩ := hno (by unfold ivNm; rw [decide_eq_false hV]; rfl)
   rcases zjm (zL p f) (yp (zL p f) s).toNat with ⟨x, hxk⟩ | hxk
   all_goals
     simp +decide only [hV3, hxk, varC, zt, zb, za, hpin, go_sem, reduceAdd, reduceMul]
     refine zd hcp hpin ?_
     simp +decide only [e1, e2, zt, zb, za, hpin, go_sem, reduceAdd, reduceMul]
 obtain ⟨i, hi⟩ : ∃ i : Nat, yp (zL p f) s = i := ⟨(yp (zL p f) s).toNat, by omega⟩
 obtain ⟨hil, _⟩ := zfs hi
 have hX : ivX p f s = (zL p f)[i] := by unfold ivX; rw [hi, Int.toNat_natCast, List.getD_eq_getElem?_getD, List.getElem?_eq_getElem hil]; rfl
 have hlet := fun h => zoq hR hfl hi h
 have hXg : (zL p f).getD i vr0 = (zL p f)[i] := by rw [List.getD_eq_getElem?_getD, List.getElem?_eq_getElem hil]; rfl
 rw [hXg] at hlet
 have hNm : ivNm p f s = (decide (0 <= ((zL p f)[i]).node) && ((zL p f)[i]).ty == 1) := by unfold ivNm; rw [decide_eq_true hV, hX]; rfl
 rw [hNm] at hno
 have hxv : (rows (varC true) (zL p f)).getD i [] = varC true (zL p f)[i] := zh _ _ hil
 have c0 : ((i : Int) < 0) = False := eq_false (by omega)
 have c1 : ((i : Int) < ((zL p f).length : Int)) = True := eq_true (by omega)
 rw [hi]
 generalize (zL p f)[i] = x at hX hlet hNm hno hxv
 by_cases hz : 0 <= x.node
 case neg =>
   have hz3 : (x.node < 0) = True := eq_true (by omega)
   obtain ⟨e1, e2⟩ := hno (by rw [decide_eq_false hz]; rfl)
   simp +decide only [c0, c1, hil, hxv, varC, hz3, Int.natCast_nonneg, zt, zb, za, hpin, go_sem, reduceAdd, reduceMul]
   refine zd hcp hpin ?_
   simp +decide only [e1, e2, zt, zb, za, hpin, go_sem, reduceAdd, reduceMul]
 have hz3 : (x.node < 0) = False := eq_false (by omega)
 cases hty : x.ty == 1 with
 | false =>
   obtain ⟨e1, e2⟩ := hno (by rw [hty, Bool.and_false])
   simp +decide only [c0, c1, hil, hxv, varC, hz3, hty, bne, Int.natCast_nonneg, zt, zb, za, hpin, go_sem, reduceAdd, reduceMul]
   refine zd hcp hpin ?_
   simp +decide only [e1, e2, zt, zb, za, hpin, go_sem, reduceAdd, reduceMul]
 | true =>
 rw [decide_eq_true hz, hty] at hNm
 obtain ⟨t, v, hnt, hL⟩ := hlet hz
 have hvE : ziK p f s = v := by unfold ziK; rw [hX, hnt, zF hL.ht, hL.kids]; rfl
 have htE : (ivX p f s).node = t := by rw [hX, hnt]
 have hout : zkT p f s = ivPA p (xA p f s) v t := by unfold zkT; rw [hvE, htE]
 have hWy : zeG p f s = (Zf p.nodes true v && !ziM p f s v) := by unfold zeG; rw [hvE]
 have hno4 : zeG p f s = false -> ivP p f s = p /\ xp p f s = 4 := fun hw => by
   refine ⟨?_, ?_⟩
   · unfold ivP; rw [hR, h0, hNm, hw]; rfl
   · unfold xp; rw [hR, h0, hNm, hw]; rfl
 have hyes : zeG p f s = true -> ivP p f s = finP p (ivPA p (xA p f s) v t) /\ xp p f s = zgk (ivPA p (xA p f s) v t) := fun hw => by
   rw [<- hout]
   refine ⟨?_, ?_⟩
   · unfold ivP; rw [hR, h0, hNm, hw]; rfl
   · unfold xp; rw [hR, h0, hNm, hw]; rfl
 rw [hWy] at hno4 hyes
 have htl := hL.ht
 have hvl2 : v < p.nodes.length := by have := hL.hv; omega
 have ct : ((t : Int) < (p.nodes.length : Int)) = True := eq_true (by omega)
 have cv : ((v : Int) < (p.nodes.length : Int)) = True := eq_true (by omega)
 have hxt : (rows (zg true) p.nodes).getD t [] = zg true p.nodes[t] := zh _ _ htl
 have hkl : p.nodes[t].kids.length = 1 := by rw [hL.kids]; rfl
 have hkg : (row1 cI p.nodes[t].kids).getD (Int.toNat 0) [] = [.sc (.int .i64 v)] := by rw [hL.kids]; rfl
 have hkg2 : (row1 cI p.nodes[t].kids).getD 0 [] = [.sc (.int .i64 v)] := by rw [hL.kids]; rfl
 simp +decide only [c0, c1, hil, hxv, varC, hz3, hty, bne, Int.natCast_nonneg, zt, zb, za, hpin, go_sem, reduceAdd, reduceMul]
 refine Tri.step zf ?_
 simp +decide only [c0, c1, hil, hxv, hnt, varC, Int.natCast_nonneg, zt, zb, za, hpin, go_sem, reduceAdd, reduceMul]
 refine Tri.step zf ?_
 simp +decide only [ct, htl, hxt, hkl, hkg, hkg2, zg, Int.natCast_nonneg, zt, zb, za, hpin, go_sem, reduceAdd, reduceMul]
 refine Tri.step zf ?_
 simp +decide only [zt, zb, za, hpin, go_sem, reduceAdd, reduceMul]
 clear hva hts hlet hno hNm hxv hXg hWy
 have hun := zam p.nodes v (hD.deep v hvl2) hn hk
 rw [<- zmV hD hvl2] at hun
 have hul := yu p.nodes (v : Int)
 have hum : ∀ b (hb : b < (zI p.nodes (v : Int)).length), 0 <= (zI p.nodes (v : Int))[b] /\ (zI p.nodes (v : Int))[b].toNat < p.nodes.length := fun b hb => by
   have := yF (List.getElem_mem hb)
   exact ⟨this.1, this.2.1⟩
 have hSn := ziL hD f s v
 generalize zI p.nodes (v : Int) = U at hun hul hum hSn
 refine Tri.step zf ?_
 simp +decide only [zt, zb, za, hpin, go_sem, reduceAdd, reduceMul]
 refine zd hun hpin ?_
 have hr0 : row1 cS (namL p s (U.take 0)) = [[.sc (.string s)]] := rfl
 simp +decide only [zt, zb, za, hpin, go_sem, reduceAdd, reduceMul]
 refine Tri.loop (ι := Nat) (fun i => i <= U.length) (fun i => ⟨187, [(1, vI f), (2, vS s), (3, .ip (za true p) 0), (6, .bp 6 0), (10, vI t), (11, vI v), (12, .ref 12 [] (namL p s (U.take i)).length), (82, .ref 3082 [] U.length), (83, vI U.length), (84, vI i)], [(12, .row 9 (row1 cS (namL p s (U.take i)))), (3082, .row 3 (row1 cI U)), (6, .box [.sc (.slice none 0 0), .sc (.slice none 0 0)])]⟩) (fun i => U.length - i) 0 (by simp) ?_ ?_
 · refine Ent.weak ?_ ?_ ?_ ?_ <;> simp +decide [zR, yA, subT, subB, zk, zj, zl, St.get, look, vI, vB, vS, cI, cS, cB, zg, fnC, zr, za, roI, namL, row1]
 rintro i hi
 refine ze zf _ ?_
 by_cases h' : i < U.length
 · have e : ((i : Int) < (U.length : Int)) = True := by simp [h']
   obtain ⟨k0, k1⟩ := hum i h'
   obtain ⟨k, hke⟩ : ∃ k : Nat, U[i] = k := ⟨U[i].toNat, by omega⟩
   rw [hke, Int.toNat_natCast] at k1
   have ck : ((k : Int) < (p.nodes.length : Int)) = True := eq_true (by omega)
   have hxk : (rows (zg true) p.nodes).getD k [] = zg true p.nodes[k] := zh _ _ k1
   have hgi : (row1 cI U)[i]? = some [.sc (.int .i64 k)] := by rw [yd _ _ h', hke]; rfl
   have hnx := zmg p s h'
   have hlen : (namL p s (U.take i)).length = i + 1 := by simp [namL]; omega
   rw [hke, zF k1] at hnx
   have hb1 : i + 1 + 1 <= 140737488355328 := by omega
   have hb2 : (i + 1 + 1) * 16 <= 140737488355328 := by omega
   have hsn := xC cS (namL p s (U.take i)) p.nodes[k].name
   simp only [cS] at hsn
   simp +decide only [e, h', hgi, ck, k1, hxk, hlen, hb1, hb2, hsn, zg, Int.natCast_nonneg, vB, vI, vS, zt, zb, za, hpin, go_sem, reduceAdd, reduceMul]
   refine ⟨i + 1, h', by omega, Ent.weak ?_ ?_ ?_ ?_⟩
   all_goals simp +decide [zR, yA, subT, subB, zk, zj, zl, St.get, look, vI, vB, vS, cI, cS, cB, zg, fnC, zr, za, roI, hnx, hlen, w64s (n := U.length) h' (by omega)]
 have hil' : i = U.length := by omega
 subst hil'
 have e : ((U.length : Int) < (U.length : Int)) = False := by simp
 simp +decide only [e, vB, vI, vS, zt, zb, za, hpin, go_sem, reduceAdd, reduceMul]
 have hnl : (namL p s U).length <= 4194304 := by simp [namL]; omega
 generalize namL p s U = nm at hSn hnl |-
 have hfs := zbq p f hf hn hk
 have hll := Zl p f
 have hnode := fun i h => zbp p f (i := i) h
 simp only [zb] at hfs
 generalize fnNs p f = L at hll hnode hSn hfs
 refine Tri.step zf ?_
 simp +decide only [zt, zb, za, hpin, go_sem, reduceAdd, reduceMul]
 refine zd hfs hpin ?_
 simp +decide only [zt, zb, za, hpin, go_sem, reduceAdd, reduceMul]
 refine Tri.loop (ι := Nat) (fun i => i <= L.length /\ (L.take i).any (hitP p nm) = false) (fun i => ⟨187, [(1, vI f), (2, vS s), (3, .ip (za true p) 0), (6, .bp 6 0), (10, vI t), (11, vI v), (12, .ref 12 [] nm.length), (100, .ref 3100 [] L.length), (101, vI L.length), (102, vI i)], [(12, .row 9 (row1 cS nm)), (3100, .row 3 (row1 cI L)), (6, .box [.sc (.slice none 0 0), .sc (.slice none 0 0)])]⟩) (fun i => L.length - i) 0 (by simp) ?_ ?_
 · refine Ent.weak ?_ ?_ ?_ ?_ <;> simp +decide [zR, yA, subT, subB, zk, zj, zl, St.get, look, vI, vB, vS, cI, cS, cB, zg, fnC, zr, za, roI]
 rintro i ⟨hi, hal⟩
 refine ze zf _ ?_
 by_cases h' : i < L.length
 · have e : ((i : Int) < (L.length : Int)) = True := by simp [h']
   obtain ⟨k0, k1⟩ := hnode i h'
   obtain ⟨k, hke⟩ : ∃ k : Nat, L[i] = k := ⟨L[i].toNat, by omega⟩
   rw [hke, Int.toNat_natCast] at k1
   have ck : ((k : Int) < (p.nodes.length : Int)) = True := eq_true (by omega)
   have hxk : (rows (zg true) p.nodes).getD k [] = zg true p.nodes[k] := zh _ _ k1
   have hgi : (row1 cI L)[i]? = some [.sc (.int .i64 k)] := by rw [yd _ _ h', hke]; rfl
   have hht := zbn nm p.nodes[k].name hnl
   have htk : List.take nm.length (row1 cS nm) = row1 cS nm := yx cS nm
   have hsh : shLL (row1 cS nm) = row1 cS nm := zly nm
   have hhit : hitP p nm (k : Int) = (p.nodes[k].kind == 14 && yD nm p.nodes[k].name) := by unfold hitP; rw [zF k1]
   have hany : (L.take (i + 1)).any (hitP p nm) = ((L.take i).any (hitP p nm) || hitP p nm (k : Int)) := by
     rw [List.take_succ_eq_append_getElem h', List.any_append, hke]; simp
   rw [hal, hhit, Bool.false_or] at hany
   have hbad : (p.nodes[k].kind == 14 && yD nm p.nodes[k].name) = true -> ziM p f s v = true := fun hh => by
     rw [hSn, List.any_eq_true]
     exact ⟨L[i], List.getElem_mem h', by rw [hke, hhit]; exact hh⟩
   simp only [cS, cB] at hht
   simp +decide only [e, h', hgi, ck, k1, hxk, zg, Int.natCast_nonneg, vB, vI, vS, zt, zb, za, hpin, go_sem, reduceAdd, reduceMul]
   cases h1 : p.nodes[k].kind == 14 with
   | false =>
     rw [h1, Bool.false_and] at hany
     simp +decide only [h1, vB, vI, vS, zt, zb, za, hpin, go_sem, reduceAdd, reduceMul]
     refine ⟨i + 1, ⟨h', hany⟩, by omega, Ent.weak ?_ ?_ ?_ ?_⟩
     all_goals simp +decide [zR, yA, subT, subB, zk, zj, zl, St.get, look, vI, vB, vS, cI, cS, cB, zg, fnC, zr, za, roI, w64s (n := L.length) h' (by omega)]
   | true =>
     simp +decide only [h1, htk, hsh, vB, vI, vS, zt, zb, za, hpin, go_sem, reduceAdd, reduceMul]
     refine zd hht hpin ?_
     cases h2 : yD nm p.nodes[k].name with
     | true =>
       obtain ⟨e1, e2⟩ := hno4 (by rw [hbad (by rw [h1, h2]; rfl)]; simp)
       simp +decide only [vB, vI, vS, zt, zb, za, hpin, go_sem, reduceAdd, reduceMul]
       refine zd hcp hpin ?_
       simp +decide only [e1, e2, zt, zb, za, hpin, go_sem, reduceAdd, reduceMul]
     | false =>
       rw [h1, h2] at hany
       simp +decide only [vB, vI, vS, zt, zb, za, hpin, go_sem, reduceAdd, reduceMul]
       refine ⟨i + 1, ⟨h', hany⟩, by omega, Ent.weak ?_ ?_ ?_ ?_⟩
       all_goals simp +decide [zR, yA, subT, subB, zk, zj, zl, St.get, look, vI, vB, vS, cI, cS, cB, zg, fnC, zr, za, roI, w64s (n := L.length) h' (by omega)]
 have hil' : i = L.length := by omega
 subst hil'
 have e : ((L.length : Int) < (L.length : Int)) = False := by simp
 rw [List.take_length] at hal
 rw [<- hSn] at hal
 rw [hal, Bool.not_false, Bool.and_true] at hno4 hyes
 clear hSn hun hfs hnode hum hul
 have hst := zgL p v hn hk
 have huo := zft p f s hf hn hk
 simp only [zb, cB] at hst huo
 simp +decide only [e, vB, vI, vS, zt, zb, za, hpin, go_sem, reduceAdd, reduceMul]
 refine Tri.step zf ?_
 simp +decide only [zt, zb, za, hpin, go_sem, reduceAdd, reduceMul]
 refine zd hst hpin ?_
 cases hq : Zf p.nodes true (v : Int) with
 | false =>
   obtain ⟨e1, e2⟩ := hno4 hq
   simp +decide only [zt, zb, za, hpin, go_sem, reduceAdd, reduceMul]
   refine zd hcp hpin ?_
   simp +decide only [e1, e2, zt, zb, za, hpin, go_sem, reduceAdd, reduceMul]
 | true =>
 obtain ⟨e1, e2⟩ := hyes hq
 clear hno4 hyes hst e
 simp +decide only [zt, zb, za, hpin, go_sem, reduceAdd, reduceMul]
 refine Tri.step zf ?_
 simp +decide only [zt, zb, za, hpin, go_sem, reduceAdd, reduceMul]
 refine zd hcp hpin ?_
 simp +decide only [zt, zb, za, hpin, go_sem, reduceAdd, reduceMul]
 obtain ⟨m1, m2, m3, m4⟩ := zkS hG (xA p f s) v t hpl
 have hfin := zeK p (ivPA p (xA p f s) v t) hf hn hk hpl m1 m2 m3 m4
 rw [e1, e2]
 have hUl : (xA p f s).length <= p.nodes.length := Nat.le_trans (Zo p s (fnNs p f)) (Zl p f)
 have hxa : ivPA p (xA p f s) v t = ⟨(ivN (xA p f s) v p.nodes).map (cutX t), ivF (xA p f s) v p.fns⟩ := rfl
 rw [hxa] at hfin |-
 clear hxa m1 m2 m3 m4 e1 e2
 generalize xA p f s = U at huo hUl hfin |-
 have hsh : shLL (row1 cI U) = row1 cI U := yR U
 have hob6 : True := trivial
 refine Tri.step zf ?_
 simp +decide only [zt, zb, za, hpin, go_sem, reduceAdd, reduceMul]
 refine zd huo hpin ?_
 simp +decide only [zt, zb, za, hpin, go_sem, reduceAdd, reduceMul]
 refine Tri.loop (ι := Nat) (fun j => j <= U.length) (fun j => ⟨187, [(3, .ip (za true p) 0), (6, .bp 6 0), (10, vI t), (11, vI v), (18, .bp 18 0), (134, .ref 3134 [] U.length), (135, vI U.length), (136, vI j)], [(18, .box [.row false 83 (rows (zg false) (ivN (U.take j) v p.nodes)), .row false 104 (rows (fnC false) (ivF (U.take j) v p.fns))]), (3134, .row 3 (row1 cI U)), (6, .box [.sc (.slice none 0 0), .sc (.slice none 0 0)])]⟩) (fun j => U.length - j) 0 (by simp) ?_ ?_
 · refine Ent.weak ?_ ?_ ?_ ?_ <;> simp +decide [zR, yA, subT, subB, zk, zj, zl, St.get, look, vI, vB, vS, cI, cS, cB, zg, fnC, zr, za, roI, ivN, ivF]
 rintro j hj
 refine ze zf _ ?_
 by_cases h' : j < U.length
 · have e : ((j : Int) < (U.length : Int)) = True := by simp [h']
   have hgi : (row1 cI U)[j]? = some [.sc (.int .i64 U[j])] := by rw [yd _ _ h']; rfl
   have hHg := ziQ ⟨ivN (U.take j) v p.nodes, ivF (U.take j) v p.fns⟩ U[j] v (by simp only; rw [zfb]; exact hf) (by simp only; rw [ZK]; exact hn) (fun x hx => by have := zgc v (U.take j) p.nodes hD.few x hx; omega)
   simp only [hgP, za] at hHg
   rw [<- znG (v : Int) p.nodes h', <- znH (v : Int) p.fns h'] at hHg
   generalize U[j] = u at hgi hHg
   simp +decide only [e, h', hgi, Int.natCast_nonneg, vB, vI, vS, zt, zb, za, hpin, go_sem, reduceAdd, reduceMul]
   refine yJ hHg hpin hfull [(2000, 18)] [] [(2000, 18)] ⟨rfl, rfl, rfl, rfl⟩ (fun uf => ?_) ?_
   · simp +decide only [zt, zb, za, hpin, go_sem, reduceAdd, reduceMul]
   simp +decide only [zt, zb, za, hpin, go_sem, reduceAdd, reduceMul]
   refine ⟨j + 1, h', by omega, Ent.weak ?_ ?_ ?_ ?_⟩
   all_goals simp +decide [zR, yA, subT, subB, zk, zj, zl, St.get, look, vI, vB, vS, cI, cS, cB, zg, fnC, zr, za, roI, w64s (n := U.length) h' (by omega)]
 have hjl : j = U.length := by omega
 subst hjl
 have e : ((U.length : Int) < (U.length : Int)) = False := by simp
 simp +decide only [e, vB, vI, vS, zt, zb, za, hpin, go_sem, reduceAdd, reduceMul]
 have hAl : (ivN U v p.nodes).length = p.nodes.length := ZK _ _ _
 have hAf := zgc (v : Int) U p.nodes hD.few
 clear huo hsh hob6 e
 generalize ivN U v p.nodes = A at hAl hAf hfin |-
 generalize ivF U v p.fns = F at hfin |-
 have hBl : (A.map (cutX t)).length = A.length := by simp
 refine Tri.step zf ?_
 simp +decide only [zt, zb, za, hpin, go_sem, reduceAdd, reduceMul]
 refine Tri.loop (ι := Nat) (fun i => i <= A.length) (fun i => ⟨187, [(3, .ip (za true p) 0), (6, .bp 6 0), (10, vI t), (18, .bp 18 0), (146, vI A.length), (147, vI i)], [(18, .box [.row false 83 (rows (zg false) (mixT A (A.map (cutX t)) i)), .row false 104 (rows (fnC false) F)]), (6, .box [.sc (.slice none 0 0), .sc (.slice none 0 0)])]⟩) (fun i => A.length - i) 0 (by simp) ?_ ?_
 · refine Ent.weak ?_ ?_ ?_ ?_ <;> simp +decide [zR, yA, subT, subB, zk, zj, zl, St.get, look, vI, vB, vS, cI, cS, cB, zg, fnC, zr, za, roI, Xx]
 rintro i hi
 refine ze zf _ ?_
 by_cases h' : i < A.length
 · have e : ((i : Int) < (A.length : Int)) = True := by simp [h']
   have hml := Zk hBl hi
   have h2 : i < (mixT A (A.map (cutX t)) i).length := by omega
   have hg := zbd hBl h' h2
   have hst := zbc hBl h'
   rw [List.getElem_map] at hst
   have hkx := hAf A[i] (List.getElem_mem h')
   obtain ⟨T1, hT1⟩ : ∃ T, T = mixT A (A.map (cutX t)) (i + 1) := ⟨_, rfl⟩
   rw [<- hT1] at hst
   generalize mixT A (A.map (cutX t)) i = T0 at hml h2 hg hst |-
   rw [<- hg] at hst hkx
   have hq := Xq (zg false) T0 h2
   simp only [zg, cI, cS] at hq
   have hci : ((i : Int) < (T0.length : Int)) = True := eq_true (by omega)
   have hsk := zdD h2 (T0[i].kids.erase t)
   have hsk1 : T0.set i ⟨T0[i].kind, T0[i].num, T0[i].name, T0[i].kids.erase t⟩ = T1 := hst
   rw [hsk1] at hsk
   have hsame : (t : Int) ∉ T0[i].kids -> T1 = T0 := fun hh => by
     rw [<- hst]
     have : cutX t T0[i] = T0[i] := by unfold cutX; rw [List.erase_of_not_mem hh]
     rw [this, List.set_getElem_self]
   clear hst hsk1
   simp +decide only [e, hci, h2, hq, Int.natCast_nonneg, vB, vI, zt, zb, za, hpin, go_sem, reduceAdd, reduceMul]
   generalize T0[i] = x at hkx hq hsk hsame hg |-
   clear hg
   refine Tri.loop (ι := Nat) (fun j => j <= x.kids.length /\ (t : Int) ∉ x.kids.take j) (fun j => ⟨187, [(3, .ip (za true p) 0), (6, .bp 6 0), (10, vI t), (18, .bp 18 0), (21, vI i), (146, vI A.length), (147, vI i), (155, .ref 18 [(0, 0), (i, 3)] x.kids.length), (156, vI x.kids.length), (157, vI j)], [(18, .box [.row false 83 (rows (zg false) T0), .row false 104 (rows (fnC false) F)]), (6, .box [.sc (.slice none 0 0), .sc (.slice none 0 0)])]⟩) (fun j => x.kids.length - j) 0 (by simp) ?_ ?_
   · refine Ent.weak ?_ ?_ ?_ ?_ <;> simp +decide [zR, yA, subT, subB, zk, zj, zl, St.get, look, vI, vB, vS, cI, cS, cB, zg, fnC, zr, za, roI]
   rintro j ⟨hj, hnm⟩
   by_cases hj' : j < x.kids.length
   · have ej : ((j : Int) < (x.kids.length : Int)) = True := by simp [hj']
     have hr2 := zfJ cI x.kids hj'
     simp only [cI] at hr2
     refine Tri.step zf ?_
     simp +decide only [ej, vB, vI, zt, zb, za, hpin, go_sem, reduceAdd, reduceMul]
     refine Tri.step zf ?_
     simp +decide only [zt, zb, za, hpin, go_sem, reduceAdd, reduceMul]
     refine Tri.seq (Tri.blk ?_)
     refine Tri.step zf ?_
     simp +decide only [hq, hr2, hci, ej, hj', h2, Int.natCast_nonneg, zt, zb, za, hpin, go_sem, reduceAdd, reduceMul]
     refine Tri.step zf ?_
     cases h1 : x.kids[j] == (t : Int) with
     | false =>
       simp +decide only [h1, zt, zb, za, hpin, go_sem, reduceAdd, reduceMul]
       refine ze zf _ ?_
       simp +decide only [zt, zb, za, hpin, go_sem, reduceAdd, reduceMul]
       refine ze zf _ ?_
       simp +decide only [zt, zb, za, hpin, go_sem, reduceAdd, reduceMul]
       refine ⟨j + 1, ⟨hj', ?_⟩, by omega, Ent.weak ?_ ?_ ?_ ?_⟩
       · rw [List.take_succ_eq_append_getElem hj']
         intro hh
         rcases List.mem_append.1 hh with hh | hh
         · exact hnm hh
         · rw [List.mem_singleton] at hh
           have : ¬ x.kids[j] = (t : Int) := by simpa using h1
           exact this hh.symm
       all_goals simp +decide [zR, yA, subT, subB, zk, zj, zl, St.get, look, vI, vB, vS, cI, cS, cB, zg, fnC, zr, za, roI, w64s (n := x.kids.length) hj' (by omega)]
     | true =>
       have hje : x.kids[j] = (t : Int) := by simpa using h1
       have hcut := zhN x.kids j (j + 1) hj hj' (by omega)
       rw [znW hj' hje hnm] at hcut
       simp only [roI, cI] at hcut
       have wj : IntKind.i64.wrap ((j : Int) + 1) = ((j + 1 : Nat) : Int) := w64s (n := x.kids.length) hj' (by omega)
       have hsk2 := hsk
       unfold zO at hsk2
       have hsy : shLL (row1 cI x.kids) = row1 cI x.kids := yR _
       have hty : List.take x.kids.length (row1 cI x.kids) = row1 cI x.kids := yx cI x.kids
       simp +decide only [h1, zt, zb, za, hpin, go_sem, reduceAdd, reduceMul]
       refine Tri.ite (b := true) (by simp +decide only [zt, zb, za, hpin, go_sem, reduceAdd, reduceMul]) (by simp +decide only [zt, zb, za, hpin, go_sem, reduceAdd, reduceMul]) ?_
       simp only [cond_true]
       refine Tri.seq (Tri.fork zf (.one 0 true (.one 2 true (.one 3 true (.one 5 true (.one 9 true (.one 10 true (.one 11 true (.two 1 (.one 4 false (.one 6 false (.one 7 false (.one 8 false (.one 12 false (.one 13 false (.one 14 false (.one 15 false .done)))))))) 4 (.one 6 true (.one 7 true (.two 1 (.one 8 false (.one 12 false (.one 13 false (.one 14 false (.one 15 false .done))))) 8 (.two 1 (.one 12 false (.one 13 false (.one 14 false (.one 15 false .done)))) 12 (.one 1 false (.one 13 false (.one 14 false (.one 15 false .done)))))))))))))))) zV (by kernel_rfl) (fun C2 hC2 => ?_))
       have hp2 := zY hC2 hpin
       simp +decide only [hq, hci, h2, wj, Int.natCast_nonneg, zt, zb, za, hp2, hpin, go_sem, reduceAdd, reduceMul]
       and_intros
       all_goals
         refine zd hcut hp2 ?_
         simp +decide only [hsy, hty, hsk, hsk2, hq, hci, h2, Int.natCast_nonneg, shLL, zt, zb, za, hp2, hpin, go_sem, reduceAdd, reduceMul]
         refine ze zf _ ?_
         simp +decide only [zt, zb, za, hpin, go_sem, reduceAdd, reduceMul]
         refine ⟨i + 1, h', by omega, Ent.weak ?_ ?_ ?_ ?_⟩
       all_goals simp +decide [zR, yA, subT, subB, zk, zj, zl, St.get, look, vI, vB, vS, cI, cS, cB, zg, fnC, zr, za, roI, <- hT1, w64s (n := A.length) h' (by omega)]
   · have hjl : j = x.kids.length := by omega
     subst hjl
     have ej : ((x.kids.length : Int) < (x.kids.length : Int)) = False := by simp
     rw [List.take_length] at hnm
     have hs := hsame hnm
     refine ze zf _ ?_
     simp +decide only [ej, vB, vI, zt, zb, za, hpin, go_sem, reduceAdd, reduceMul]
     refine ⟨i + 1, h', by omega, Ent.weak ?_ ?_ ?_ ?_⟩
     all_goals simp +decide [zR, yA, subT, subB, zk, zj, zl, St.get, look, vI, vB, vS, cI, cS, cB, zg, fnC, zr, za, roI, <- hT1, hs, w64s (n := A.length) h' (by omega)]
 have hil : i = A.length := by omega
 subst hil
 have e : ((A.length : Int) < (A.length : Int)) = False := by simp
 simp +decide only [e, zbe hBl, vB, vI, zt, zb, za, hpin, go_sem, reduceAdd, reduceMul]
 simp only [zb, za, cI] at hfin
 refine Tri.ent ?_ (Ent.frb hfull 18)
 refine Tri.step zf ?_
 simp +decide only [zhp, zmw, za, zt, zb, za, hpin, go_sem, reduceAdd, reduceMul]
 refine zd hfin hpin ?_
 simp +decide only [za, zt, zb, za, hpin, go_sem, reduceAdd, reduceMul]
 refine ze zf _ ?_
 simp +decide only [za, zt, zb, za, hpin, go_sem, reduceAdd, reduceMul]
theorem zaJ (p : ProgramD) (fn : Int) (s : ByteArray) (hf : p.fns.length <= 1048576) (hn : p.nodes.length <= 1048576) (hk : ∀ x ∈ p.nodes, x.kids.length <= 1048576) : zu Tryz.prog 79 [.ro (zb p), .ro (.sc (.int .i64 fn)), .ro (.sc (.string s))] (fun rs st => rs = [(false, [.row false 3 (row1 cI (xA p fn s))])]) := by
 have hfs := zmP p fn hf hn hk
 have hll := Zl p fn
 have hnode := fun i h => zbp p fn (i := i) h
 have hres : xA p fn s = Yo p s (fnNs p fn) := rfl
 simp only [zb] at hfs
 refine zm (fn := Tryz.f79) (c := Tryz.f79.body.getD .skip) (res := [.tm 6]) (n := 51) zf (by kernel_rfl) (by rfl) (by kernel_rfl) (by rfl) (by rfl) (by simp [zp]) (fun uf ub C hpin hpin2 hfull => ?_)
 simp only [Tryz.f79, Option.getD_some]
 refine Tri.step zf ?_
 simp +decide only [zt, zb, za, hpin, go_sem, reduceAdd, reduceMul]
 refine Tri.ent ?_ (Ent.frb hfull 3)
 refine Tri.step zf ?_
 simp +decide only [zt, zb, za, hpin, go_sem, reduceAdd, reduceMul]
 refine Tri.step zf ?_
 simp +decide only [zt, zb, za, hpin, go_sem, reduceAdd, reduceMul]
 refine zd hfs hpin ?_
 rw [hres]
 generalize fnNs p fn = L at hll hnode |-
 have hsh : shLL (row1 cI L) = row1 cI L := yR L
 simp +decide only [zt, zb, za, hpin, go_sem, reduceAdd, reduceMul]
 refine Tri.ent ?_ (Ent.frz hfull 8)
 refine Tri.step zf ?_
 simp +decide only [hsh, zt, zb, za, hpin, go_sem, reduceAdd, reduceMul]
 refine Tri.loop (ι := Nat) (fun i => i <= L.length) (fun i => ⟨51, [(2, vS s), (3, .ip (za true p) 0), (7, .ref 7 [] (Yo p s (L.take i)).length), (8, roI L), (9, vI i)], [(7, .row 3 (row1 cI (Yo p s (L.take i))))]⟩) (fun i => L.length - i) 0 (by simp) ?_ ?_
 · refine Ent.weak ?_ ?_ ?_ ?_ <;> simp +decide [zR, yA, subT, subB, zk, zj, zl, St.get, look, vI, vB, vS, cI, cS, cB, zg, fnC, zr, za, roI, Yo, row1]
 · rintro i hi
   refine ze zf _ ?_
   by_cases h' : i < L.length
   · have e : ((i : Int) < (L.length : Int)) = True := by simp [h']
     obtain ⟨k0, k1⟩ := hnode i h'
     obtain ⟨k, hke⟩ : ∃ k : Nat, L[i] = k := ⟨L[i].toNat, by omega⟩
     rw [hke] at k1
     rw [Int.toNat_natCast] at k1
     have ck : ((k : Int) < (p.nodes.length : Int)) = True := eq_true (by omega)
     have hxk : (rows (zg true) p.nodes).getD k [] = zg true p.nodes[k] := zh _ _ k1
     have hnx := zeQ p s h'
     have hlen : (Yo p s (L.take i)).length <= i := by
       have := Zo p s (L.take i); simp at this; omega
     have hb1 : (Yo p s (L.take i)).length + 1 <= 140737488355328 := by omega
     have hb2 : ((Yo p s (L.take i)).length + 1) * 8 <= 140737488355328 := by omega
     have hsn := xC cI (Yo p s (L.take i)) L[i]
     rw [hke] at hnx hsn
     have hua : zif p s (k : Int) = (xj p.nodes[k].kind && decide (p.nodes[k].name = s)) := by unfold zif; rw [zF k1]
     rw [hua] at hnx
     have hgi : (row1 cI L).getD i [] = [.sc (.int .i64 k)] := by rw [zq _ _ h', hke]; rfl
     have hus := zie p.nodes[k].kind
     simp only [cI, cB] at hsn hus
     simp +decide only [e, vB, vI, vS, zt, zb, za, hpin, go_sem, reduceAdd, reduceMul]
     refine Tri.sched zf [(0, true), (2, true), (3, true), (4, true), (1, true), (5, false), (6, false), (7, false), (8, false), (9, false), (10, false), (11, true), (13, true), (14, true), (15, true), (20, true), (12, true), (16, false), (17, false), (18, false), (19, false), (21, false), (22, false)] zV (by kernel_rfl) (fun C2 hC2 => ?_)
     have hp2 := zY hC2 hpin
     simp +decide only [e, h', hgi, ck, k1, hxk, zg, Int.natCast_nonneg, vB, vI, vS, zt, zb, za, hp2, hpin, go_sem, reduceAdd, reduceMul]
     refine zd hus hp2 ?_
     cases h1 : xj p.nodes[k].kind with
     | false =>
       rw [h1] at hnx
       simp only [Bool.false_and, Bool.false_eq_true, if_false, List.append_nil] at hnx
       simp +decide only [e, h', hgi, ck, k1, hxk, zg, Int.natCast_nonneg, vB, vI, vS, zt, zb, za, hp2, hpin, go_sem, reduceAdd, reduceMul]
       refine ⟨i + 1, h', by omega, Ent.weak ?_ ?_ ?_ ?_⟩
       all_goals simp +decide [zR, yA, subT, subB, zk, zj, zl, St.get, look, vI, vB, vS, cI, cS, cB, zg, fnC, zr, za, roI, hnx, w64s (n := L.length) h' (by omega)]
     | true =>
       by_cases h2 : p.nodes[k].name = s
       · rw [h1, decide_eq_true h2] at hnx
         simp only [Bool.and_self, if_true] at hnx
         simp +decide only [e, h', hgi, ck, k1, hxk, zg, h2, hb1, hb2, hsn, Int.natCast_nonneg, vB, vI, vS, zt, zb, za, hp2, hpin, go_sem, reduceAdd, reduceMul]
         refine ⟨i + 1, h', by omega, Ent.weak ?_ ?_ ?_ ?_⟩
         all_goals simp +decide [zR, yA, subT, subB, zk, zj, zl, St.get, look, vI, vB, vS, cI, cS, cB, zg, fnC, zr, za, roI, hnx, w64s (n := L.length) h' (by omega)]
       · rw [h1, decide_eq_false h2] at hnx
         simp only [Bool.and_false, Bool.false_eq_true, if_false, List.append_nil] at hnx
         simp +decide only [e, h', hgi, ck, k1, hxk, zg, h2, Int.natCast_nonneg, vB, vI, vS, zt, zb, za, hp2, hpin, go_sem, reduceAdd, reduceMul]
         refine ⟨i + 1, h', by omega, Ent.weak ?_ ?_ ?_ ?_⟩
         all_goals simp +decide [zR, yA, subT, subB, zk, zj, zl, St.get, look, vI, vB, vS, cI, cS, cB, zg, fnC, zr, za, roI, hnx, w64s (n := L.length) h' (by omega)]
   · have hil : i = L.length := by omega
     subst hil
     have e : ((L.length : Int) < (L.length : Int)) = False := by simp
     simp +decide only [e, vB, vI, vS, zt, zb, za, hpin, go_sem, reduceAdd, reduceMul]
     refine ze zf _ ?_
     simp +decide only [zt, zb, za, hpin, go_sem, reduceAdd, reduceMul]
theorem zlE (p : ProgramD) (fn : Int) (s : ByteArray) : setP p fn s = (xA p fn s).any (fun x => (nAt p.nodes x).kind == 14) := by
 rw [Bool.eq_iff_iff]
 unfold setP xA
 simp only [List.any_eq_true, List.mem_filter, Bool.and_eq_true, decide_eq_true_eq, beq_iff_eq]
 constructor
 · rintro ⟨x, hx, h1, h2⟩
   refine ⟨x, ⟨hx, ?_, h2⟩, h1⟩
   rw [h1]; decide
 · rintro ⟨x, ⟨hx, _, h2⟩, h1⟩
   exact ⟨x, hx, h1, h2⟩
theorem zhw (p : ProgramD) (fn : Int) (s : ByteArray) (hf : p.fns.length <= 1048576) (hn : p.nodes.length <= 1048576) (hk : ∀ x ∈ p.nodes, x.kids.length <= 1048576) : zu Tryz.prog 77 [.ro (zb p), .ro (.sc (.int .i64 fn)), .ro (.sc (.string s))] (fun rs st => rs = [(false, [cB (setP p fn s)])]) := by
 have hfs := zaJ p fn s hf hn hk
 have hll : (xA p fn s).length <= p.nodes.length := Nat.le_trans (Zo p s (fnNs p fn)) (Zl p fn)
 have hmem := fun x h => zcQ (p := p) (fn := fn) (s := s) (x := x) h
 rw [zlE]
 simp only [zb] at hfs
 refine zm (fn := Tryz.f77) (c := Tryz.f77.body.getD .skip) (res := [.tm 6]) (n := 29) zf (by kernel_rfl) (by rfl) (by kernel_rfl) (by rfl) (by rfl) (by simp [zp]) (fun uf ub C hpin hpin2 hfull => ?_)
 simp only [Tryz.f77, Option.getD_some]
 refine Tri.step zf ?_
 simp +decide only [zt, zb, za, hpin, go_sem, reduceAdd, reduceMul]
 refine Tri.ent ?_ (Ent.frb hfull 3)
 refine Tri.step zf ?_
 simp +decide only [zt, zb, za, hpin, go_sem, reduceAdd, reduceMul]
 refine zd hfs hpin ?_
 generalize xA p fn s = L at hll hmem |-
 have hsh : shLL (row1 cI L) = row1 cI L := yR L
 simp +decide only [zt, zb, za, hpin, go_sem, reduceAdd, reduceMul]
 refine Tri.ent ?_ (Ent.frz hfull 7)
 refine Tri.step zf ?_
 simp +decide only [hsh, zt, zb, za, hpin, go_sem, reduceAdd, reduceMul]
 refine Tri.loop (ι := Nat) (fun i => i <= L.length /\ (L.take i).any (fun x => (nAt p.nodes x).kind == 14) = false) (fun i => ⟨29, [(3, .ip (za true p) 0), (6, vB false), (7, roI L), (8, vI i)], []⟩) (fun i => L.length - i) 0 (by simp) ?_ ?_
 · refine Ent.weak ?_ ?_ ?_ ?_ <;> simp +decide [zR, yA, subT, subB, zk, zj, zl, St.get, look, vI, vB, vS, cI, cS, cB, zg, fnC, zr, za, roI, Yo, row1]
 · rintro i ⟨hi, hal⟩
   refine ze zf _ ?_
   by_cases h' : i < L.length
   · have e : ((i : Int) < (L.length : Int)) = True := by simp [h']
     obtain ⟨k0, k1, _, _⟩ := hmem _ (List.getElem_mem h')
     obtain ⟨k, hke⟩ : ∃ k : Nat, L[i] = k := ⟨L[i].toNat, by omega⟩
     rw [hke] at k1
     rw [Int.toNat_natCast] at k1
     have ck : ((k : Int) < (p.nodes.length : Int)) = True := eq_true (by omega)
     have hxk : (rows (zg true) p.nodes).getD k [] = zg true p.nodes[k] := zh _ _ k1
     have hgi : (row1 cI L).getD i [] = [.sc (.int .i64 k)] := by rw [zq _ _ h', hke]; rfl
     have hany : (L.take (i + 1)).any (fun x => (nAt p.nodes x).kind == 14) = ((L.take i).any (fun x => (nAt p.nodes x).kind == 14) || p.nodes[k].kind == 14) := by
       rw [List.take_succ_eq_append_getElem h', List.any_append, hke, <- zF k1]; simp
     rw [hal, Bool.false_or] at hany
     simp +decide only [e, vB, vI, vS, zt, zb, za, hpin, go_sem, reduceAdd, reduceMul]
     refine Tri.sched zf [(0, true), (2, true), (3, true), (4, true), (1, true), (5, false), (6, false), (7, false), (8, false), (9, false)] zV (by kernel_rfl) (fun C2 hC2 => ?_)
     have hp2 := zY hC2 hpin
     simp +decide only [e, h', hgi, ck, k1, hxk, zg, Int.natCast_nonneg, vB, vI, vS, zt, zb, za, hp2, hpin, go_sem, reduceAdd, reduceMul]
     cases h1 : p.nodes[k].kind == 14 with
     | false =>
       rw [h1] at hany
       simp +decide only [vB, vI, vS, zt, zb, za, hp2, hpin, go_sem, reduceAdd, reduceMul]
       refine ⟨i + 1, ⟨h', hany⟩, by omega, Ent.weak ?_ ?_ ?_ ?_⟩
       all_goals simp +decide [zR, yA, subT, subB, zk, zj, zl, St.get, look, vI, vB, vS, cI, cS, cB, zg, fnC, zr, za, roI, w64s (n := L.length) h' (by omega)]
     | true =>
       have hbad : L.any (fun x => (nAt p.nodes x).kind == 14) = true := by
         rw [List.any_eq_true]
         exact ⟨L[i], List.getElem_mem h', by rw [hke, zF k1]; exact h1⟩
       simp +decide only [hbad, vB, vI, vS, zt, zb, za, hp2, hpin, go_sem, reduceAdd, reduceMul]
   · have hil : i = L.length := by omega
     subst hil
     have e : ((L.length : Int) < (L.length : Int)) = False := by simp
     rw [List.take_length] at hal
     simp +decide only [e, vB, vI, vS, zt, zb, za, hpin, go_sem, reduceAdd, reduceMul]
     refine ze zf _ ?_
     simp +decide only [hal, zt, zb, za, hpin, go_sem, reduceAdd, reduceMul]
end Go.Proofs.YtjjigphfjclofaaGreatDoor.AW
