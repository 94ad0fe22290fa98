/- What the statements of this set lean on, part 8. No condition beyond those named. -/
import Derived.Test.YtjjigphfjclofaaGreatDoorLi7
namespace Go.Proofs.YtjjigphfjclofaaGreatDoor.AW
open Go.RowKit
open Nat (reduceAdd reduceMul)
set_option maxHeartbeats 8000000
set_option maxRecDepth 100000
set_option linter.unusedSimpArgs false
set_option linter.unusedVariables false
structure PkS where
 to : List NodeD
 bad : Bool
def runB (V : Int -> PkS -> Int × PkS) : List Int -> PkS -> List Int × PkS
 | [], s => ([], s)
 | k :: r, s => if s.bad then ([], s) else ((V k s).1 :: (runB V r (V k s).2).1, (runB V r (V k s).2).2)
def zay (x : NodeD) (q : List Int × PkS) : Int × PkS := (q.2.to.length, ⟨q.2.to ++ [⟨x.kind, x.num, x.name, q.1⟩], q.2.bad⟩)
def yS (s : PkS) : Int × PkS := (-1, ⟨s.to, true⟩)
def pkI (N : List NodeD) : Nat -> Int -> PkS -> Int × PkS
 | 0, _, s => yS s
 | d + 1, k, s => if s.bad || (!inI k 0 (N.length - 1) || decide (300 <= s.to.length)) then yS s else
   if (runB (pkI N d) (nAt N k).kids s).2.bad then (-1, (runB (pkI N d) (nAt N k).kids s).2) else
   if decide (300 <= (runB (pkI N d) (nAt N k).kids s).2.to.length) then yS (runB (pkI N d) (nAt N k).kids s).2 else zay (nAt N k) (runB (pkI N d) (nAt N k).kids s)
def pkR (N : List NodeD) : Nat -> Int -> PkS -> Int × PkS
 | 0, _, s => yS s
 | d + 1, k, s => if s.bad || (!inI k 0 (N.length - 1) || decide (300 < s.to.length)) then yS s else zay (nAt N k) (runB (pkR N d) (nAt N k).kids s)
theorem YR (V : Int -> PkS -> Int × PkS) (l : List Int) {s : PkS} (h : s.bad = true) : runB V l s = ([], s) := by
 cases l with
 | nil => rfl
 | cons k r => unfold runB; rw [if_pos h]
theorem zdf (V : Int -> PkS -> Int × PkS) : ∀ (l : List Int) (s : PkS), (runB V l s).1.length <= l.length
 | [], s => by simp [runB]
 | k :: r, s => by
   unfold runB
   split
   · simp
   · simp only [List.length_cons]
     have := zdf V r (V k s).2
     omega
theorem zde {V : Int -> PkS -> Int × PkS} {m : Nat} (h : ∀ k s, s.to.length <= m -> (V k s).2.to.length <= m) : ∀ (l : List Int) (s : PkS), s.to.length <= m -> (runB V l s).2.to.length <= m
 | [], s, hs => hs
 | k :: r, s, hs => by
   unfold runB
   split
   · exact hs
   · exact zde h r _ (h k s hs)
theorem XT (N : List NodeD) : ∀ (d : Nat) (k : Int) (s : PkS), s.to.length <= 300 -> (pkI N d k s).2.to.length <= 300
 | 0, k, s, hs => hs
 | d + 1, k, s, hs => by
   have hr := zde (V := pkI N d) (m := 300) (fun k s h => XT N d k s h) (nAt N k).kids s hs
   unfold pkI
   split
   · exact hs
   split
   · exact hr
   split
   · exact hr
   · rename_i h3
     simp only [decide_eq_true_eq] at h3
     simp only [zay, List.length_append, List.length_singleton]
     omega
theorem zhe {V : Int -> PkS -> Int × PkS} {m : Nat} (h1 : ∀ k s, s.to.length <= 300 -> (V k s).2.to.length <= m) (h2 : ∀ k s, 300 < s.to.length -> (V k s).2.to = s.to /\ (V k s).2.bad = true) (hm : 300 <= m) : ∀ (l : List Int) (s : PkS), s.to.length <= m -> (runB V l s).2.to.length <= m
 | [], s, hs => hs
 | k :: r, s, hs => by
   unfold runB
   split
   · exact hs
   · by_cases h : s.to.length <= 300
     · exact zhe h1 h2 hm r _ (h1 k s h)
     · obtain ⟨g1, g2⟩ := h2 k s (by omega)
       rw [YR V r g2]
       show (V k s).2.to.length <= m
       rw [g1]; exact hs
theorem zjF (N : List NodeD) (d : Nat) (k : Int) (s : PkS) (h : 300 < s.to.length) : (pkR N d k s).2.to = s.to /\ (pkR N d k s).2.bad = true := by
 cases d with
 | zero => exact ⟨rfl, rfl⟩
 | succ d =>
   unfold pkR
   rw [if_pos (by simp [h])]
   exact ⟨rfl, rfl⟩
theorem zjG (N : List NodeD) : ∀ (d : Nat) (k : Int) (s : PkS), s.to.length <= 300 -> (pkR N d k s).2.to.length <= 300 + d
 | 0, k, s, hs => hs
 | d + 1, k, s, hs => by
   unfold pkR
   split
   · show s.to.length <= _; omega
   · have hr := zhe (V := pkR N d) (m := 300 + d) (fun k s h => zjG N d k s h) (fun k s h => zjF N d k s h) (by omega) (nAt N k).kids s (by omega)
     simp only [zay, List.length_append, List.length_singleton]
     omega
theorem zlX (N : List NodeD) (d : Nat) (k : Int) (s : PkS) (m : Nat) (hm : 300 + d <= m) (hs : s.to.length <= m) : (pkR N d k s).2.to.length <= m := by
 by_cases h : s.to.length <= 300
 · have := zjG N d k s h; omega
 · obtain ⟨g1, _⟩ := zjF N d k s (by omega)
   rw [g1]; exact hs
theorem zdg {V : Int -> PkS -> Int × PkS} (h : ∀ k s, s.to.length <= (V k s).2.to.length) : ∀ (l : List Int) (s : PkS), s.to.length <= (runB V l s).2.to.length
 | [], s => Nat.le_refl _
 | k :: r, s => by
   unfold runB
   split
   · exact Nat.le_refl _
   · exact Nat.le_trans (h k s) (zdg h r _)
theorem zjH (N : List NodeD) : ∀ (d : Nat) (k : Int) (s : PkS), s.to.length <= (pkR N d k s).2.to.length
 | 0, k, s => Nat.le_refl _
 | d + 1, k, s => by
   unfold pkR
   split
   · exact Nat.le_refl _
   · have := zdg (V := pkR N d) (fun k s => zjH N d k s) (nAt N k).kids s
     simp only [zay, List.length_append, List.length_singleton]
     omega
def pkRel (s t : PkS) : Prop := (s.bad = false /\ t = s /\ s.to.length <= 300) \/ (s.bad = true /\ (t.bad = true \/ 300 < t.to.length))
theorem pkRel.stop {s t : PkS} : pkRel (yS s).2 (yS t).2 := Or.inr ⟨rfl, Or.inl rfl⟩
theorem zjB {V W : Int -> PkS -> Int × PkS} (h : ∀ k s, s.bad = false -> s.to.length <= 300 -> pkRel (V k s).2 (W k s).2 /\ ((V k s).2.bad = false -> (V k s).1 = (W k s).1)) (hW : ∀ k t, (t.bad = true \/ 300 < t.to.length) -> (W k t).2.bad = true) :
   ∀ (l : List Int) (s t : PkS), pkRel s t -> pkRel (runB V l s).2 (runB W l t).2 /\ ((runB V l s).2.bad = false -> (runB V l s).1 = (runB W l t).1)
 | [], s, t, hr => ⟨hr, fun _ => rfl⟩
 | k :: r, s, t, hr => by
   rcases hr with ⟨h1, rfl, h3⟩ | ⟨h1, h2⟩
   · obtain ⟨g1, g2⟩ := h k t h1 h3
     obtain ⟨g3, g4⟩ := zjB h hW r _ _ g1
     unfold runB
     rw [if_neg (by simp [h1]), if_neg (by simp [h1])]
     refine ⟨g3, fun hb => ?_⟩
     have hb0 : (V k t).2.bad = false := by
       cases hq : (V k t).2.bad with
       | false => rfl
       | true => rw [YR V r hq] at hb; simp only at hb; rw [hq] at hb; exact hb
     simp only
     rw [g2 hb0, g4 hb]
   · rw [YR V _ h1]
     refine ⟨Or.inr ⟨h1, ?_⟩, fun hb => by simp only at hb; rw [h1] at hb; cases hb⟩
     cases ht : t.bad with
     | true => rw [YR W _ ht]; exact Or.inl ht
     | false =>
       unfold runB
       rw [if_neg (by simp [ht]), YR W r (hW k t h2)]
       exact Or.inl (hW k t h2)
theorem zjE (N : List NodeD) (d : Nat) (k : Int) (t : PkS) (h : t.bad = true \/ 300 < t.to.length) : (pkR N d k t).2.bad = true := by
 cases d with
 | zero => rfl
 | succ d =>
   unfold pkR
   rw [if_pos (by rcases h with h | h <;> simp [h])]
   rfl
theorem zou (N : List NodeD) : ∀ (d : Nat) (k : Int) (s : PkS), s.bad = false -> s.to.length <= 300 -> pkRel (pkI N d k s).2 (pkR N d k s).2 /\ ((pkI N d k s).2.bad = false -> (pkI N d k s).1 = (pkR N d k s).1)
 | 0, k, s, h1, h2 => ⟨Or.inr ⟨rfl, Or.inl rfl⟩, fun hb => by cases hb⟩
 | d + 1, k, s, h1, h2 => by
   have hrun := zjB (V := pkI N d) (W := pkR N d) (fun k s g1 g2 => zou N d k s g1 g2) (fun k t ht => zjE N d k t ht) (nAt N k).kids s s (Or.inl ⟨h1, rfl, h2⟩)
   have hmost := zde (V := pkI N d) (m := 300) (fun k s h => XT N d k s h) (nAt N k).kids s h2
   have hgrow := zdg (V := pkR N d) (fun k s => zjH N d k s) (nAt N k).kids s
   unfold pkI pkR
   generalize runB (pkI N d) (nAt N k).kids s = q at hrun hmost
   generalize runB (pkR N d) (nAt N k).kids s = z at hrun hgrow
   obtain ⟨hr, hf⟩ := hrun
   cases hi : inI k 0 (N.length - 1) with
   | false =>
     simp only [Bool.not_false, Bool.true_or, Bool.or_true, if_true]
     exact ⟨Or.inr ⟨rfl, Or.inl rfl⟩, fun hb => by cases hb⟩
   | true =>
     simp only [h1, Bool.not_true, Bool.false_or, decide_eq_true_eq]
     have h4 : ¬ 300 < s.to.length := by omega
     rw [if_neg h4]
     by_cases h300 : 300 <= s.to.length
     · rw [if_pos h300]
       refine ⟨Or.inr ⟨rfl, Or.inr ?_⟩, fun hb => by cases hb⟩
       simp only [zay, List.length_append, List.length_singleton]
       omega
     · rw [if_neg h300]
       rcases hr with ⟨e1, e2, e3⟩ | ⟨e1, e2⟩
       · have e4 : ¬ q.2.bad = true := by simp [e1]
         rw [if_neg e4]
         by_cases hq : 300 <= q.2.to.length
         · rw [if_pos hq]
           refine ⟨Or.inr ⟨rfl, Or.inr ?_⟩, fun hb => by cases hb⟩
           simp only [zay, List.length_append, List.length_singleton, e2]
           omega
         · rw [if_neg hq]
           have ez : z = q := Prod.ext (hf e1).symm e2
           subst ez
           refine ⟨Or.inl ⟨e1, rfl, ?_⟩, fun _ => rfl⟩
           simp only [zay, List.length_append, List.length_singleton]
           omega
       · rw [if_pos e1]
         refine ⟨Or.inr ⟨e1, ?_⟩, fun hb => by simp only at hb; rw [e1] at hb; cases hb⟩
         rcases e2 with e2 | e2
         · exact Or.inl e2
         · refine Or.inr ?_
           simp only [zay, List.length_append, List.length_singleton]
           omega
def pkFn (V : Int -> PkS -> Int × PkS) (f : FnD) (s : PkS) : FnD × PkS :=
 if decide (0 <= f.ret) then (⟨f.name, f.params, f.res, (V f.body s).1, (V f.ret (V f.body s).2).1⟩, (V f.ret (V f.body s).2).2) else (⟨f.name, f.params, f.res, (V f.body s).1, f.ret⟩, (V f.body s).2)
def xZ (V : Int -> PkS -> Int × PkS) : List FnD -> PkS -> List FnD × PkS
 | [], s => ([], s)
 | f :: r, s => ((pkFn V f s).1 :: (xZ V r (pkFn V f s).2).1, (xZ V r (pkFn V f s).2).2)
def pk0 : PkS := ⟨[], false⟩
def YU (p : ProgramD) : List FnD × PkS := xZ (pkI p.nodes 10) p.fns pk0
def zkI (p : ProgramD) : List FnD × PkS := xZ (pkR p.nodes 10) p.fns pk0
def zah (p : ProgramD) : Bool := !(YU p).2.bad
def Yh (p : ProgramD) : ProgramD := if zah p then ⟨(YU p).2.to, (YU p).1⟩ else ⟨[], []⟩
theorem ziF (N : List NodeD) (d : Nat) (k : Int) (s : PkS) (h : s.bad = true) : pkI N d k s = (-1, s) := by
 have e : yS s = (-1, s) := by unfold yS; cases s; simp only at h; subst h; rfl
 cases d with
 | zero => exact e
 | succ d =>
   unfold pkI
   rw [if_pos (by simp [h])]
   exact e
theorem znz (N : List NodeD) (d : Nat) (f : FnD) (s t : PkS) (hr : pkRel s t) : pkRel (pkFn (pkI N d) f s).2 (pkFn (pkR N d) f t).2 /\ ((pkFn (pkI N d) f s).2.bad = false -> (pkFn (pkI N d) f s).1 = (pkFn (pkR N d) f t).1) := by
 have one : ∀ k s t, pkRel s t -> pkRel (pkI N d k s).2 (pkR N d k t).2 /\ ((pkI N d k s).2.bad = false -> s.bad = false /\ (pkI N d k s).1 = (pkR N d k t).1) := fun k s t hr => by
   rcases hr with ⟨h1, rfl, h3⟩ | ⟨h1, h2⟩
   · obtain ⟨g1, g2⟩ := zou N d k t h1 h3
     exact ⟨g1, fun hb => ⟨h1, g2 hb⟩⟩
   · rw [ziF N d k s h1]
     exact ⟨Or.inr ⟨h1, Or.inl (zjE N d k t h2)⟩, fun hb => by simp only at hb; rw [h1] at hb; cases hb⟩
 obtain ⟨g1, g2⟩ := one f.body s t hr
 obtain ⟨g3, g4⟩ := one f.ret _ _ g1
 unfold pkFn
 split
 · refine ⟨g3, fun hb => ?_⟩
   obtain ⟨e1, e2⟩ := g4 hb
   simp only
   rw [(g2 e1).2, e2]
 · refine ⟨g1, fun hb => ?_⟩
   simp only
   rw [(g2 hb).2]
theorem zhp (N : List NodeD) (d : Nat) : ∀ (l : List FnD) (s t : PkS), pkRel s t -> pkRel (xZ (pkI N d) l s).2 (xZ (pkR N d) l t).2 /\ ((xZ (pkI N d) l s).2.bad = false -> s.bad = false /\ (xZ (pkI N d) l s).1 = (xZ (pkR N d) l t).1)
 | [], s, t, hr => ⟨hr, fun hb => ⟨hb, rfl⟩⟩
 | f :: r, s, t, hr => by
   obtain ⟨g1, g2⟩ := znz N d f s t hr
   obtain ⟨g3, g4⟩ := zhp N d r _ _ g1
   unfold xZ
   refine ⟨g3, fun hb => ?_⟩
   obtain ⟨e1, e2⟩ := g4 hb
   refine ⟨?_, by simp only; rw [g2 e1, e2]⟩
   cases hs : s.bad with
   | false => rfl
   | true =>
     exfalso
     have : (pkFn (pkI N d) f s).2.bad = true := by
       unfold pkFn
       rw [ziF N d _ s hs]
       simp only
       rw [ziF N d _ s hs]
       split <;> exact hs
     rw [this] at e1; cases e1
theorem zkH (p : ProgramD) : ((!((zkI p).2.bad || decide (300 < (zkI p).2.to.length))) = zah p) /\ (zah p = true -> zkI p = YU p) := by
 obtain ⟨h1, h2⟩ := zhp p.nodes 10 p.fns pk0 pk0 (Or.inl ⟨rfl, rfl, by simp [pk0]⟩)
 unfold zah YU zkI
 generalize xZ (pkI p.nodes 10) p.fns pk0 = q at h1 h2
 generalize xZ (pkR p.nodes 10) p.fns pk0 = z at h1 h2
 rcases h1 with ⟨e1, e2, e3⟩ | ⟨e1, e2⟩
 · rw [e2, e1]
   refine ⟨by simp; omega, fun _ => Prod.ext (h2 e1).2.symm e2⟩
 · rw [e1]
   refine ⟨?_, fun h => by cases h⟩
   rcases e2 with e2 | e2 <;> simp [e2]
def simN (A B : List NodeD) : Nat -> Int -> Int -> Prop
 | 0, _, _ => True
 | d + 1, a, b => inI a 0 (A.length - 1) = inI b 0 (B.length - 1) /\ (inI a 0 (A.length - 1) = true -> (nAt A a).kind = (nAt B b).kind /\ (nAt A a).num = (nAt B b).num /\ (nAt A a).name = (nAt B b).name /\ (nAt A a).kids.length = (nAt B b).kids.length /\ ∀ (i : Nat) (x y : Int), (nAt A a).kids[i]? = some x -> (nAt B b).kids[i]? = some y -> simN A B d x y)
theorem zjA {V W : Int -> PkS -> Int × PkS} {R : Int -> Int -> Prop} (h : ∀ x y s, R x y -> V x s = W y s) : ∀ (l m : List Int) (s : PkS), l.length = m.length -> (∀ (i : Nat) (x y : Int), l[i]? = some x -> m[i]? = some y -> R x y) -> runB V l s = runB W m s
 | [], [], s, _, _ => rfl
 | [], _ :: _, s, hl, _ => by simp at hl
 | _ :: _, [], s, hl, _ => by simp at hl
 | x :: l, y :: m, s, hl, hr => by
   have h0 := h x y s (hr 0 x y rfl rfl)
   have h1 := zjA h l m (V x s).2 (by simpa using hl) (fun i x y hx hy => hr (i + 1) x y (by simpa using hx) (by simpa using hy))
   unfold runB
   rw [<- h0, h1]
theorem zlW (A B : List NodeD) : ∀ (d : Nat) (a b : Int) (s : PkS), simN A B d a b -> pkI A d a s = pkI B d b s
 | 0, _, _, _, _ => rfl
 | d + 1, a, b, s, h => by
   obtain ⟨h1, h2⟩ := h
   unfold pkI
   rw [<- h1]
   cases hi : inI a 0 (A.length - 1) with
   | false => simp
   | true =>
     obtain ⟨g1, g2, g3, g4, g5⟩ := h2 hi
     rw [zjA (V := pkI A d) (W := pkI B d) (R := simN A B d) (fun x y s hr => zlW A B d x y s hr) (nAt A a).kids (nAt B b).kids s g4 g5]
     unfold zay
     rw [g1, g2, g3]
theorem zhv {A B : List NodeD} (d : Nat) : ∀ {F G : List FnD} (s : PkS), F.length = G.length -> (∀ (i : Nat) (f g : FnD), F[i]? = some f -> G[i]? = some g -> f.name = g.name /\ f.params = g.params /\ f.res = g.res /\ simN A B d f.body g.body /\ ((0 <= f.ret ↔ 0 <= g.ret) /\ (0 <= f.ret -> simN A B d f.ret g.ret) /\ (¬ 0 <= f.ret -> f.ret = g.ret))) -> xZ (pkI A d) F s = xZ (pkI B d) G s
 | [], [], s, _, _ => rfl
 | [], _ :: _, s, hl, _ => by simp at hl
 | _ :: _, [], s, hl, _ => by simp at hl
 | f :: F, g :: G, s, hl, h => by
   obtain ⟨h1, h2, h3, h4, h5, h6, h7⟩ := h 0 f g rfl rfl
   have e : pkFn (pkI A d) f s = pkFn (pkI B d) g s := by
     unfold pkFn
     rw [zlW A B d _ _ _ h4, h1, h2, h3]
     by_cases h0 : 0 <= f.ret
     · rw [if_pos (by simpa using h0), if_pos (by simpa using h5.1 h0), zlW A B d _ _ _ (h6 h0)]
     · rw [if_neg (by simpa using h0), if_neg (by simpa using fun hg => h0 (h5.2 hg)), h7 h0]
   unfold xZ
   rw [e, zhv d _ (by simpa using hl) (fun i f g hf hg => h (i + 1) f g (by simpa using hf) (by simpa using hg))]
theorem znB {p q : ProgramD} (hl : p.fns.length = q.fns.length) (h : ∀ (i : Nat) (f g : FnD), p.fns[i]? = some f -> q.fns[i]? = some g -> f.name = g.name /\ f.params = g.params /\ f.res = g.res /\ simN p.nodes q.nodes 10 f.body g.body /\ ((0 <= f.ret ↔ 0 <= g.ret) /\ (0 <= f.ret -> simN p.nodes q.nodes 10 f.ret g.ret) /\ (¬ 0 <= f.ret -> f.ret = g.ret))) : YU p = YU q := zhv 10 pk0 hl h
theorem zlF {A B : List NodeD} {R : Int -> Int -> Prop} (h : ∀ a b, R a b -> inI a 0 (A.length - 1) = inI b 0 (B.length - 1) /\ (inI a 0 (A.length - 1) = true -> (nAt A a).kind = (nAt B b).kind /\ (nAt A a).num = (nAt B b).num /\ (nAt A a).name = (nAt B b).name /\ (nAt A a).kids.length = (nAt B b).kids.length /\ ∀ (i : Nat) (x y : Int), (nAt A a).kids[i]? = some x -> (nAt B b).kids[i]? = some y -> R x y)) : ∀ (d : Nat) (a b : Int), R a b -> simN A B d a b
 | 0, _, _, _ => trivial
 | d + 1, a, b, hr => by
   obtain ⟨h1, h2⟩ := h a b hr
   refine ⟨h1, fun hi => ?_⟩
   obtain ⟨g1, g2, g3, g4, g5⟩ := h2 hi
   exact ⟨g1, g2, g3, g4, fun i x y hx hy => zlF h d x y (g5 i x y hx hy)⟩
theorem zcG {α : Type} (f : α -> Nat) (l m : List α) : sumN f (l ++ m) = sumN f l + sumN f m := by simp [sumN]
theorem XQ {α : Type} (f : α -> Nat) (x : α) (l : List α) : sumN f (x :: l) = f x + sumN f l := by simp [sumN]
set_option maxHeartbeats 4000000
section
variable {P : Program} {w w1 : World} {C : Cx} {X : Nat -> Prop} {gh gh' : Gh} {st st' : St} {a : Act} {v : V} {u : Value} {K : St -> Prop}
theorem zoq {f : FuncId} {km om : Nat} {em : TypeId} {esm : List (List D)} {ts : (Nat -> Value) -> List V} {iob : List (Nat × Ob)} {post : List RV -> St -> Prop} (hs : SoundAt P f ts iob post) (hpin : ∀ n, 3000 <= n -> C.pin n = none) (hfull : C.full) (M Mk Mr Mb : List (Nat × Nat)) (hMM : M = Mr ++ Mb) (hMv : M = (km, om) :: Mk) (hom : look st.ob om = some (.row em esm)) {vs : List V} {d : Option Nat}
   (hM : ioIs st iob M) (hMr : zaw st Mr) (hMk : (M.map (·.1)).Nodup) (hMo : (M.map (·.2)).Nodup) (hiob : iob.map (·.1) = M.map (·.1)) (hl : ∀ uf, Xb ⟨Mr, uf, pvOf C, [], iob⟩ Mb vs (ts uf))
   (hns : ∀ rs st', post rs st' -> zbp iob st'.ob Mk) (hK : ∀ rs st', post rs st' -> ev (b := ⟨K⟩) (XK ((st.kill om).wrote Mk st'.ob) d rs)) : zli P C st f vs d K := by
 refine Or.inl ⟨hs.1, fun a w gh us h hus hv hd => ?_⟩
 classical
 let os := M.map (·.2)
 let gh0 : Gh := { S := gh.S, hv := fun k => match look M k with | some o => gh.hv o | none => undef, bb := fun k => match look M k with | some o => gh.bb o | none => 0, bo := fun k => match look M k with | some o => gh.bo o | none => 0, F := fun k b => ∃ o, look M k = some o /\ gh.F o b }
 let may : Nat -> Nat -> Prop := fun b f => ∃ k o x, look M k = some o /\ look st.ob o = some x /\ gh.F o b /\ (∀ cs, x = .box cs -> b = gh.bb o -> gh.bo o <= f /\ f < gh.bo o + cs.length)
 let C0 : Cx := { w0 := w, s0 := gh0.S, may := may, pin := fun k => if yZ k = true then some (gh0.hv k, gh0.bb k, gh0.bo k) else none, z := fun k => gh.S k \/ w.heap.size <= k \/ ∃ f, may k f }
 obtain ⟨hlen, hl⟩ := XC (hl gh0.hv)
 have hosm : ∀ k o, look M k = some o -> o ∈ os /\ yZ k = true /\ ∃ x, look st.ob o = some x /\ look iob k = some x := fun k o hk => by
   have hm := yI hk
   obtain ⟨g1, x, g2, g3, _⟩ := Xd hM k o hm
   exact ⟨List.mem_map.2 ⟨(k, o), hm, rfl⟩, g1, x, g2, g3⟩
 have hiobM : ∀ k x, look iob k = some x -> ∃ o, look M k = some o /\ look st.ob o = some x := fun k x hx => by
   have h1 : k ∈ iob.map (·.1) := List.mem_map.2 ⟨(k, x), yI hx, rfl⟩
   rw [hiob] at h1
   obtain ⟨⟨k', o⟩, hm, rfl⟩ := List.mem_map.1 h1
   have hk := yr hMk hm
   obtain ⟨_, _, x', g1, g2⟩ := hosm _ _ hk
   rw [hx] at g2; cases g2
   exact ⟨o, hk, g1⟩
 have hF0 : ∀ k o, look M k = some o -> gh0.F k = gh.F o := fun k o hk => by
   funext b; exact propext ⟨fun ⟨o', ho', hb⟩ => by rw [hk] at ho'; cases ho'; exact hb, fun hb => ⟨o, hk, hb⟩⟩
 have hv0 : ∀ k o, look M k = some o -> gh0.hv k = gh.hv o /\ gh0.bb k = gh.bb o /\ gh0.bo k = gh.bo o := fun k o hk => by simp only [gh0, hk, and_self]
 have hrep : Rep P C0 No ⟨us.size, zipT 0 (ts gh0.hv), iob⟩ ⟨us, []⟩ w gh0 := {
   obs := fun k b hb => by
     obtain ⟨o, hk, ho⟩ := hiobM k b hb
     obtain ⟨g1, g2, g3⟩ := hv0 k o hk
     exact (h.obs o b ho).at (gh' := gh0) rfl g1 g2 g3 (hF0 k o hk)
   dis := fun k k' b b' q hb hb' ⟨o, ho, hq⟩ ⟨o', ho', hq'⟩ => by
     obtain ⟨_, _, x, g1, _⟩ := hosm k o ho
     obtain ⟨_, _, x', g1', _⟩ := hosm k' o' ho'
     have := h.dis o o' _ _ q g1 g1' hq hq'
     subst this
     exact Yx hMo (yI ho) (yI ho')
   sS := h.sS
   nS := fun k b q hb ⟨o, ho, hq⟩ hS => by
     obtain ⟨g0, _, x, g1, _⟩ := hosm k o ho
     exact h.nS o _ q g1 hq hS
   wrR := fun k e es q hb ⟨o, ho, hq⟩ => Or.inr (fun f => by
     obtain ⟨_, _, x, g1, g2⟩ := hosm k o ho
     have hb : look iob k = some (.row e es) := hb
     rw [g2] at hb; cases hb
     exact ⟨k, o, _, ho, g1, hq, fun cs hc => by cases hc⟩)
   wrB := fun k cs q hb ⟨o, ho, hq⟩ hne => Or.inr (fun f => by
     obtain ⟨_, _, x, g1, g2⟩ := hosm k o ho
     exact ⟨k, o, _, ho, g1, hq, fun cs' _ he => (hne (by rw [(hv0 k o ho).2.1]; exact he)).elim⟩)
   wrC := fun k cs j hb hj => Or.inr (by
     obtain ⟨o, hk, ho⟩ := hiobM k _ hb
     obtain ⟨g1, g2, g3⟩ := hv0 k o hk
     rw [g2, g3]
     refine ⟨k, o, _, hk, ho, ?_, fun cs' hc _ => by cases hc; exact ⟨by omega, by omega⟩⟩
     have := h.obs o _ ho
     cases this with
     | box xs G hb hl h1 hc hxx dis nb hF => exact (hF _).2 (Or.inl rfl))
   kept := World.keptBut_refl w _
   pins := fun k x hp hn => by
     simp only [C0] at hp
     split at hp
     · cases hp; rfl
     · cases hp
   tms := fun t => by
     have e1 : St.get ⟨us.size, zipT 0 (ts gh0.hv), iob⟩ t = ((ts gh0.hv)[t]?).getD .dead := by
       unfold St.get; simp only [Zt, Nat.zero_le, if_true, Nat.sub_zero]
     rw [e1]
     cases hi : (ts gh0.hv)[t]? with
     | none => exact .dead
     | some x =>
       have hlt := (List.getElem?_eq_some_iff.1 hi).1
       have hvt : vs[t]? = some vs[t] := List.getElem?_eq_getElem (by omega)
       have hle := hl t _ x hvt hi
       have hvr := hv t _ hvt
       simp only [Option.getD_some]
       have low : xI ⟨Mr, gh0.hv, pvOf C, [], iob⟩ vs[t] x -> VR P w gh0 iob x (us.getD t undef) := fun hle => by
         refine XY (gh0 := gh0) (L := ⟨Mr, gh0.hv, pvOf C, [], iob⟩) (fun k o hk => ?_) (fun o v hv hso => ?_) h.obs (fun k hk => hk) (fun o x k hx hk => by simp [look] at hx) (fun o x hx => by simp [look] at hx) hvr hle
         · have hmm : (k, o) ∈ M := by rw [hMM]; exact List.mem_append_left _ hk
           have hk' := yr hMk hmm
           obtain ⟨_, _, x', g1, g2⟩ := hosm k o hk'
           obtain ⟨e, es, g3⟩ := zav hMr k o hk
           rw [g3] at g1; cases g1
           exact ⟨e, es, g3, g2, (hv0 k o hk').1, rfl⟩
         · obtain ⟨x, hx, rfl⟩ := Option.map_eq_some_iff.1 hv
           have := h.pins o x hx (fun e => by rw [e] at hso; cases hso)
           rw [<- this]
       unfold zhI at hle
       split at hle
       · rename_i o j heq
         rw [heq] at hvr
         split at hle
         · rename_i k j'
           obtain ⟨hk0, rfl⟩ := hle
           have hmm : (k, o) ∈ M := by rw [hMM]; exact List.mem_append_right _ (yI hk0)
           have hk' := yr hMk hmm
           obtain ⟨g1, g2, g3⟩ := hv0 k o hk'
           obtain ⟨_, _, x', g4, g5⟩ := hosm k o hk'
           generalize us.getD t undef = u0 at hvr
           cases hvr with
           | bp hx =>
             rw [hx] at g4; cases g4
             have := VR.bp (P := P) (w := w) (gh := gh0) (j := j) g5
             rw [g2, g3] at this; exact this
         · exact hle.elim
       · rename_i ch j heq
         rw [heq] at hvr
         split at hle
         · obtain ⟨rfl, rfl⟩ := hle
           generalize us.getD t undef = u0 at hvr
           cases hvr with
           | ip U hs' h' => exact .ip U hs' h'
         · exact hle.elim
       · exact low hle
   nt := Nat.le_refl _
   dfs := rfl
   xl := fun k hk => hk.elim
   xS := fun k hk => hk.elim
   xF := fun o b k hb hk => hk.elim
   xW := fun k hk => hk.elim
   s0S := fun k hk => hk
   sZ := fun k hk => Or.inl hk }
 refine (hs.2 gh0.hv (fun o => (gh0.bb o, gh0.bo o)) C0 w gh0 us rfl (fun o ho => by simp only [C0, ho]; rfl) (fun o ho => by simp only [C0, ho]; rfl) (fun k hk => Or.inr hk) (by omega) hrep).mono (fun e w' he => ?_)
 obtain ⟨vs', rs, st', a', gc, G, rfl, hpost, hres, hR⟩ := he
 refine ⟨tupV vs', rfl, ?_⟩
 have hlike := hns rs st' hpost
 have hk := hR.kept
 have mayos : ∀ b f, may b f -> ∃ o x, o ∈ os /\ look st.ob o = some x /\ gh.F o b := fun b f ⟨k, o, x, hk, hx, hb, _⟩ => ⟨o, x, (hosm k o hk).1, hx, hb⟩
 have allmay : ∀ b, (∀ f, may b f) -> ∃ o x, o ∈ os /\ look st.ob o = some x /\ gh.F o b /\ ∀ cs, x = .box cs -> b ≠ gh.bb o := fun b hb => by
   obtain ⟨k, o, x, hk, hx, hF, _⟩ := hb 0
   refine ⟨o, x, (hosm k o hk).1, hx, hF, fun cs hc he => ?_⟩
   obtain ⟨k2, o2, x2, hk2, hx2, hF2, h2⟩ := hb (gh.bo o + cs.length)
   have := h.dis o o2 _ _ b hx hx2 hF hF2
   subst this
   rw [hx] at hx2; cases hx2
   have := h2 cs hc he
   omega
 have wr0 : ∀ o x b, look st.ob o = some x -> gh.F o b -> (∀ cs, x = .box cs -> b ≠ gh.bb o) -> C.w0.heap.size <= b \/ ∀ f, C.may b f := fun o x b hx hb hc => by
   cases x with
   | row e es => exact h.wrR o e es b hx hb
   | box cs => exact h.wrB o cs b hx hb (hc cs rfl)
 have wrA : ∀ b, (∀ f, may b f) -> C.w0.heap.size <= b \/ ∀ f, C.may b f := fun b hb => by
   obtain ⟨o, x, _, hx, hF, hc⟩ := allmay b hb
   exact wr0 o x b hx hF hc
 have wr1 : ∀ b f, may b f -> C.w0.heap.size <= b \/ C.may b f := fun b f ⟨k, o, x, hk, hx, hF, hc⟩ => by
   by_cases hbx : ∀ cs, x = .box cs -> b ≠ gh.bb o
   · exact (wr0 o x b hx hF hbx).imp id (fun hh => hh f)
   · simp only [Classical.not_forall] at hbx
     obtain ⟨cs, hcs, hne⟩ := hbx
     have he : b = gh.bb o := Classical.not_not.1 hne
     subst hcs
     obtain ⟨g1, g2⟩ := hc cs rfl he
     have := h.wrC o cs (f - gh.bo o) hx (by omega)
     rw [show gh.bo o + (f - gh.bo o) = f by omega] at this
     rw [he]; exact this
 have heap : ∀ k, k < w.heap.size -> ¬ (∃ f, may k f) -> w'.heap[k]? = w.heap[k]? := by
   intro k hk' hn
   refine xw hk hk' (fun f hm => ?_) (fun hm => ?_)
   · obtain ⟨b, f', e, hm⟩ := hm
     injection e with e1 e2
     rw [<- e1, <- e2] at hm
     exact hn ⟨f, hm⟩
   · obtain ⟨b, f', e, _⟩ := hm
     cases e
 have hsub : ∀ {k o}, (k, o) ∈ Mk -> (k, o) ∈ M := fun h => by rw [hMv]; exact List.mem_cons_of_mem _ h
 let osk := Mk.map (·.2)
 have homk : om ∉ osk := fun ho => by
   have := hMo
   rw [hMv, List.map_cons, List.nodup_cons] at this
   exact this.1 ho
 have h' := h.take hom
 have hlk : ∀ o, look (st.kill om).ob o = if om = o then none else look st.ob o := yg st om
 have hos2 : ∀ o, o ∈ os -> o = om \/ o ∈ osk := fun o ho => by
   have ho' : o ∈ M.map (·.2) := ho
   rw [hMv, List.map_cons] at ho'
   exact List.mem_cons.1 ho'
 have hnew : ∀ k o, (k, o) ∈ Mk -> ∃ x y, look st.ob o = some x /\ look st'.ob k = some y /\ x.like y := fun k o hm => by
   obtain ⟨_, x, g1, g2, _⟩ := Xd hM k o (hsub hm)
   obtain ⟨x', y, g3, g4, g5⟩ := zbR hlike k o hm
   rw [g2] at g3; cases g3
   exact ⟨x, y, g1, g4, g5⟩
 have hnewo : ∀ o, o ∈ osk -> ∃ k y, (k, o) ∈ Mk /\ look st'.ob k = some y /\ look (xU st'.ob Mk) o = some y := fun o ho => by
   obtain ⟨k, hm, hl'⟩ := (xO st'.ob Mk o).1 ho
   obtain ⟨x, y, _, g2, _⟩ := hnew k o hm
   rw [g2] at hl'
   exact ⟨k, y, hm, g2, hl'⟩
 have hlook : ∀ o, look ((st.kill om).wrote Mk st'.ob).ob o = if o ∈ osk then look (xU st'.ob Mk) o else look (st.kill om).ob o := fun o => by
   simp only [St.wrote, YZ, ZL]
   by_cases ho : o ∈ osk
   · obtain ⟨k, y, _, _, g⟩ := hnewo o ho
     have ho' : o ∈ Mk.map (·.2) := ho
     simp only [if_pos ho', if_pos ho, g, Option.or_none]
   · have hn := (xO st'.ob Mk o).2 ho
     have ho' : o ∉ Mk.map (·.2) := ho
     simp only [if_neg ho', if_neg ho, hn, Option.none_or]
 let ghn : Gh := { S := gc.S, hv := gh.hv, bb := gh.bb, bo := gh.bo, F := fun o => if o ∈ osk then (fun b => ∃ k, (k, o) ∈ Mk /\ gc.F k b) else gh.F o }
 have gin : ∀ k o, (k, o) ∈ Mk -> ghn.F o = gc.F k := fun k o hm => by
   have ho : o ∈ osk := List.mem_map.2 ⟨(k, o), hm, rfl⟩
   simp only [ghn, if_pos ho]
   funext b
   exact propext ⟨fun ⟨k', hm', hb⟩ => by have := Yx hMo (hsub hm) (hsub hm'); subst this; exact hb, fun hb => ⟨k, hm, hb⟩⟩
 have gout : ∀ o, o ∉ osk -> ghn.F o = gh.F o := fun o ho => by simp only [ghn]; rw [if_neg ho]
 have hpn : ∀ k o, (k, o) ∈ Mk -> gc.hv k = gh.hv o /\ gc.bb k = gh.bb o /\ gc.bo k = gh.bo o := fun k o hm => by
   have hkl := yr hMk (hsub hm)
   obtain ⟨x, y, _, g2, _⟩ := hnew k o hm
   have hp := hR.pins k (gh0.hv k, gh0.bb k, gh0.bo k) (by simp only [C0]; rw [if_pos (hosm k o hkl).2.1]) (by rw [g2]; simp)
   obtain ⟨g1, g2, g3⟩ := hv0 k o hkl
   rw [g1, g2, g3] at hp
   simp only [Prod.mk.injEq] at hp
   exact hp
 have newB : ∀ b, (w.heap.size <= b \/ ∃ f, may b f) -> (∃ o', o' ∈ osk /\ gh.F o' b) \/ (No b \/ gh.F om b) \/ w.heap.size <= b := fun b hb => by
   rcases hb with hb | ⟨f, hb⟩
   · exact Or.inr (Or.inr hb)
   · obtain ⟨o, x, ho, _, hF⟩ := mayos b f hb
     rcases hos2 o ho with rfl | ho
     · exact Or.inr (Or.inl (Or.inr hF))
     · exact Or.inl ⟨o, ho, hF⟩
 have fullB : ∀ b, (w.heap.size <= b \/ ∃ f, may b f) -> C.z b := fun b hb => hfull b (by
   rcases hb with hb | ⟨f, hb⟩
   · exact Or.inl (Nat.le_trans h.size hb)
   · exact (wr1 b f hb).imp id (fun hh => ⟨f, hh⟩))
 have cF : ∀ k o, (k, o) ∈ Mk -> ∀ b, gc.F k b -> (w.heap.size <= b \/ ∃ f, may b f) /\ (∀ y, look st'.ob k = some y -> (∀ cs, y = .box cs -> b ≠ gh.bb o) -> C.w0.heap.size <= b \/ ∀ f, C.may b f) := fun k o hm b hb => by
   obtain ⟨x, y, g1, g2, g3⟩ := hnew k o hm
   have hp := hpn k o hm
   have all : (∀ cs, y = .box cs -> b ≠ gh.bb o) -> w.heap.size <= b \/ ∀ f, may b f := fun hc => by
     cases y with
     | row e es => exact hR.wrR k e es b g2 hb
     | box cs => exact hR.wrB k cs b g2 hb (by rw [hp.2.1]; exact hc cs rfl)
   refine ⟨?_, fun y' hy' hc => ?_⟩
   · by_cases hbb : b = gh.bb o /\ ∃ cs, y = .box cs
     · obtain ⟨he, cs, rfl⟩ := hbb
       cases x with
       | row e es => simp [Ob.like] at g3
       | box cs0 =>
         have hob := h.obs o _ g1
         have hFb : gh.F o (gh.bb o) := by
           cases hob with
           | box xs G hb hl h1 hc hxx dis nb hF => exact (hF _).2 (Or.inl rfl)
         by_cases hn : 0 < cs0.length
         · exact Or.inr ⟨gh.bo o, k, o, _, yr hMk (hsub hm), g1, by rw [he]; exact hFb, fun cs' hc _ => by cases hc; omega⟩
         · obtain ⟨_, x1, q1, _, q3⟩ := Xd hM k o (hsub hm)
           rw [g1] at q1; cases q1
           exact (q3 (by rw [List.eq_nil_of_length_eq_zero (by omega : cs0.length = 0)])).elim
     · exact (all (fun cs hc he => hbb ⟨he, cs, hc⟩)).imp id (fun hh => ⟨0, hh 0⟩)
   · rw [g2] at hy'; cases hy'
     rcases all hc with hh | hh
     · exact Or.inl (Nat.le_trans h.size hh)
     · exact wrA b hh
 have hin : Rep P C (Yn rs G) ((st.kill om).wrote Mk st'.ob) a w' ghn := by
   refine h'.multiX osk ghn (Yn rs G) (fun o ho => by rw [hlook, if_neg ho]) (fun t => by unfold St.get St.wrote; simp only [Ze]; cases look (st.kill om).tm t <;> simp [xd, osk]) rfl
     (fun o ho => by
       obtain ⟨k, y, hm, g2, g3⟩ := hnewo o ho
       obtain ⟨x, y', g4, g5, g6⟩ := hnew k o hm
       rw [g2] at g5; cases g5
       exact ⟨x, y, by rw [hlk, if_neg (fun e => homk (by rw [e]; exact ho))]; exact g4, by rw [hlook, if_pos ho]; exact g3, g6⟩)
     ⟨rfl, rfl, rfl⟩ gout hk.size
     (fun o x k ho hx hk' => by
       rw [hlk] at hx
       split at hx
       · cases hx
       · rename_i hne
         exact heap k ((h.obs o x hx).lt k hk') (fun ⟨f, hm⟩ => by
           obtain ⟨o', x', ho', hx', hF⟩ := mayos k f hm
           have := h.dis o o' x _ k hx hx' hk' hF
           subst this
           rcases hos2 o ho' with e | e
           · exact hne e.symm
           · exact ho e))
     (fun k hk' => heap k (h.sS k hk') (fun ⟨f, hm⟩ => by
       obtain ⟨o', x', ho', hx', hF⟩ := mayos k f hm
       exact h.nS o' _ k hx' hF hk'))
     (World.keptBut_mono (fun p hp => by
       obtain ⟨b, f, e, hm⟩ := hp
       exact ⟨b, f, e, wr1 b f hm⟩) hk)
     (fun k hk' => hR.s0S k hk')
     (fun k hk' => ⟨hR.sS k hk', by
       rcases hR.sZ k hk' with hz | hz
       · exact ⟨h.sZ k hz, Or.inl hz⟩
       · refine ⟨fullB k hz, Or.inr ?_⟩
         rcases newB k hz with hh | hh | hh
         · exact Or.inl hh
         · exact Or.inr (Or.inl hh)
         · exact Or.inr (Or.inr hh)⟩)
     (fun o ho y hy => by
       rw [hlook, if_pos ho] at hy
       obtain ⟨k, y', hm, g2, g3⟩ := hnewo o ho
       rw [g3] at hy; cases hy
       obtain ⟨p1, p2, p3⟩ := hpn k o hm
       exact (hR.obs k _ g2).at (gh' := ghn) rfl p1.symm p2.symm p3.symm (gin k o hm))
     (fun o ho b hb => by
       obtain ⟨k, y, hm, g2, g3⟩ := hnewo o ho
       rw [gin k o hm] at hb
       rcases newB b (cF k o hm b hb).1 with hh | hh | hh
       · exact Or.inl hh
       · exact Or.inr (Or.inl hh)
       · exact Or.inr (Or.inr hh))
     (fun o o' b ho ho' hb hb' => by
       obtain ⟨k, y, hm, g2, g3⟩ := hnewo o ho
       obtain ⟨k', y', hm', g2', g3'⟩ := hnewo o' ho'
       rw [gin k o hm] at hb
       rw [gin k' o' hm'] at hb'
       have := hR.dis k k' _ _ b g2 g2' hb hb'
       subst this
       have h1 := yr hMk (hsub hm)
       have h2 := yr hMk (hsub hm')
       rw [h1] at h2; cases h2; rfl)
     (fun o b ho hb => by
       obtain ⟨k, y, hm, g2, g3⟩ := hnewo o ho
       rw [gin k o hm] at hb
       exact hR.nS k _ b g2 hb)
     (fun o b y ho hy hb hc => by
       obtain ⟨k, y', hm, g2, g3⟩ := hnewo o ho
       rw [hlook, if_pos ho, g3] at hy; cases hy
       rw [gin k o hm] at hb
       exact (cF k o hm b hb).2 _ g2 hc)
     (fun b hb => ⟨hR.xl b hb, hR.xS b hb, by
       rcases hR.xW b hb with hw | hw
       · exact Or.inl (Nat.le_trans h.size hw)
       · exact wrA b hw, by
       rcases hR.xW b hb with hw | hw
       · exact Or.inr (Or.inr hw)
       · obtain ⟨o, x, ho, _, hF, _⟩ := allmay b hw
         rcases hos2 o ho with rfl | ho
         · exact Or.inr (Or.inl (Or.inr hF))
         · exact Or.inl ⟨o, ho, hF⟩⟩)
     (fun o b ho hb hX => by
       obtain ⟨k, y, hm, g2, g3⟩ := hnewo o ho
       rw [gin k o hm] at hb
       exact hR.xF k _ b g2 hX hb)
 have hres' : Res P w' ghn.S rs vs' G := hres
 cases d with
 | none => exact ⟨_, ghn, hK rs st' hpost, hin.less (fun k hk => hk.elim)⟩
 | some d =>
   obtain ⟨gh2, hr2, hn2, hl2, hv2, _, _⟩ := YB d rs vs' G 0 hin hpin hres' (fun b hb => hb)
   refine ⟨_, gh2, hK rs st' hpost, ?_⟩
   simp only [XK]
   refine (hr2.less (X' := No) (fun k hk => hk.elim)).set (by rw [hn2]; exact hd d rfl) ?_
   match rs, vs', hl2, hv2 with
   | [], [], _, hv2 => exact .tup rfl (fun i v hi => by simp [vsR] at hi)
   | [r], [v], _, hv2 => exact hv2 0 _ _ rfl rfl
   | r :: r2 :: rs, v :: v2 :: vs, hl2, hv2 =>
     refine .tup (by simp [<- hl2]) (fun i x hi => ?_)
     have hil := (List.getElem?_eq_some_iff.1 hi).1
     have hvi : (v :: v2 :: vs)[i]? = some (v :: v2 :: vs)[i] := List.getElem?_eq_getElem (by omega)
     have := hv2 i x _ hi hvi
     simpa [Array.getD_eq_getD_getElem?, hvi] using this
   | [], v :: vs, hl2, _ => simp [vsR] at hl2
   | r :: rs, [], hl2, _ => simp [vsR] at hl2
   | [r], v :: v2 :: vs, hl2, _ => simp [vsR] at hl2
   | r :: r2 :: rs, [v], hl2, _ => simp [vsR] at hl2
theorem zna {f : FuncId} {km om : Nat} {em : TypeId} {esm : List (List D)} {ts : (Nat -> Value) -> List V} {iob N : List (Nat × Ob)} {R : List RV} (hs : SoundAt P f ts iob (fun rs st => rs = R /\ xp st.ob N)) (hpin : ∀ o, yZ o = false -> C.pin o = none) (hfull : C.full) (M Mk Mr Mb : List (Nat × Nat)) {vs : List V} {d : Option Nat}
   (hMM : M = Mr ++ Mb /\ M = (km, om) :: Mk /\ Xz (M.map (·.1)) = true /\ Xz (M.map (·.2)) = true /\ iob.map (·.1) = M.map (·.1)) (hom : look st.ob om = some (.row em esm)) (hl : ∀ uf, Xb ⟨Mr, uf, pvOf C, [], iob⟩ Mb vs (ts uf))
   (h : ioIs st iob M /\ zaw st Mr /\ zbp iob N Mk /\ ev (b := ⟨K⟩) (XK ((st.kill om).wrote Mk N) d R)) : Yg (b := ⟨K⟩) P C st f vs d := by
 refine zoq hs (pin3 hpin) hfull M Mk Mr Mb hMM.1 hMM.2.1 hom h.1 h.2.1 (XW hMM.2.2.1) (XW hMM.2.2.2.1) hMM.2.2.2.2 hl (fun rs st' hr => ?_) (fun rs st' hr => ?_)
 · exact (ZU (ZT hr.2) Mk h.2.2.1).2
 · have e : (st.kill om).wrote Mk st'.ob = (st.kill om).wrote Mk N := by unfold St.wrote; rw [(ZU (ZT hr.2) Mk h.2.2.1).1]
   rw [hr.1, e]; exact h.2.2.2
def St.own (st : St) (t : Nat) (e : TypeId) (o : Nat) : St := match look st.ob o with
 | none => (match st.get t with
   | .nil _ => (st.put o (.row e [])).set t (.ref o [] 0)
   | .sc (.slice none 0 0) => (st.put o (.row e [])).set t (.ref o [] 0)
   | _ => st)
 | _ => st
theorem Ent.own (t : Nat) (e : TypeId) (o : Nat) (hp : C.pin o = none) : Ent P C st (st.own t e o) := fun a w gh h => by
 have key : ∀ (ho : look st.ob o = none), a.tmps.getD t undef = .slice none 0 0 -> ∃ gh', Rep P C No ((st.put o (.row e [])).set t (.ref o [] 0)) a w gh' := fun ho hu => by
   have h1 : ObR P w (gh.upd o (.slice none 0 0) 0 0 (fun _ => False)) o (.row e []) := .row (by
     have : Ow P w gh.S (.sc (.slice none 0 0)) (.slice none 0 0) (fun _ => False) := .sc rfl
     simpa [Gh.upd] using this.nilr (e := e))
   have h2 := (h.lay ho hp h1 (fun k hk => hk.elim)).less (X' := No) (fun k hk => hk.elim)
   refine ⟨_, h2.set0 ?_⟩
   rw [hu]
   refine .ref (x := .row e []) (e := e) (es := []) (A := none) (c := 0) (xg _ _ _) ?_ (Nat.le_refl _)
   have : (gh.upd o (.slice none 0 0) 0 0 (fun _ => False)).hv o = .slice none 0 0 := by simp [Gh.upd]
   show Nav P w (.row false e []) ((gh.upd o (.slice none 0 0) 0 0 (fun _ => False)).hv o) [] (.row false e []) (.slice none 0 0)
   rw [this]
   exact .nil
 unfold St.own
 split
 · rename_i ho
   have ht := h.tms t
   split
   · rename_i he
     rw [he] at ht
     refine key ho ?_
     generalize a.tmps.getD t undef = u at ht
     cases ht; rfl
   · rename_i he
     rw [he] at ht
     refine key ho ?_
     generalize a.tmps.getD t undef = u at ht
     cases ht; rfl
   · exact ⟨gh, h⟩
 · exact ⟨gh, h⟩
def SoundAtN (P : Program) (f : FuncId) (ts : (Nat -> Value) -> List V) (ob0 : List (Nat × Ob)) (post : List RV -> St -> Prop) : Prop :=
 Yc P f = true /\ ∀ (uf : Nat -> Value) (ub : Nat -> Nat × Nat) (C : Cx) (w : World) (gh : Gh) (us : Array Value), C.w0 = w -> (∀ o, yZ o = false -> C.pin o = none) -> (∀ o, yZ o = true -> C.pin o = some (uf o, ub o)) -> us.size = (ts uf).length ->
   Rep P C No ⟨us.size, zipT 0 (ts uf), ob0⟩ ⟨us, []⟩ w gh ->
   Calls P f us w (fun e w' => ∃ (vs : List Value) (rs : List RV) (st' : St) (a' : Act) (gh' : Gh) (G : Nat -> Nat -> Nat -> Prop), e = .returned (tupV vs) /\ post rs st' /\ Res P w' gh'.S rs vs G /\ Rep P C (Yn rs G) st' a' w' gh')
theorem SoundAtN.at {f : FuncId} {ts : (Nat -> Value) -> List V} {ob0 : List (Nat × Ob)} {post : List RV -> St -> Prop} (h : SoundAtN P f ts ob0 post) : SoundAt P f ts ob0 post :=
 ⟨h.1, fun uf ub C w gh us h1 h2 h3 _ h5 h6 => h.2 uf ub C w gh us h1 h2 h3 h5 h6⟩
end
attribute [go_sem] St.own
def aAny (P : Program) (C : Cx) (ops : Array Oper) : List (Nat × Sch) -> St -> (St -> Prop) -> Prop
 | [], _, _ => True
 | (i, r) :: t, st, K => zcC P C ops i st (fun st' => Xn P C ops r st' K) /\ aAny P C ops t st K
def aPre (P : Program) (C : Cx) (ops : Array Oper) (L : List (Nat × Sch)) : List Nat -> St -> (St -> Prop) -> Prop
 | [], st, K => aAny P C ops L st K
 | i :: r, st, K => match ops[i]? with
   | some o => Zj st o /\ (match zkv P ops st o with
     | some (s, v) => s /\ ev (b := ⟨fun st' => aPre P C ops L r st' K⟩) (ZA st o.dst v)
     | none => False)
   | none => False
def preB (ops : Array Oper) (L : List (Nat × Sch)) : List Nat -> Array Bool -> Nat -> Bool
 | [], l, n + 1 => Region.ready .any ops l == L.map (·.1) && (!L.isEmpty && L.all (fun p => zai ops p.2 (l.setIfInBounds p.1 true) n))
 | i :: r, l, n + 1 => ((Region.ready .any ops l).contains i && Region.free .any ops l i) && preB ops L r (l.setIfInBounds i true) n
 | _, _, 0 => false
def zov (ops : Array Oper) (pre : List Nat) (L : List (Nat × Sch)) : Bool := Region.noSelect ops && preB ops L pre (Array.replicate ops.size false) ops.size
section
variable {P : Program} {w w1 : World} {C : Cx} {X : Nat -> Prop} {gh gh1 : Gh} {st : St} {a : Act} {v : V} {u : Value} {ob : List (Nat × Ob)} {S : Nat -> Prop} {K : St -> Prop}
theorem zkh {ops : Array Oper} : ∀ {L : List (Nat × Sch)}, aAny P C ops L st K -> ∀ p ∈ L, zcC P C ops p.1 st (fun st' => Xn P C ops p.2 st' K)
 | [], _, p, hp => by simp at hp
 | (i, r) :: t, h, p, hp => by
   rcases List.mem_cons.1 hp with rfl | hp
   · exact h.1
   · exact zkh h.2 p hp
theorem zfs (hz : xq P) {ops : Array Oper} {Q : Exit -> St -> Prop} {w : World} {gh : Gh} {C0 : Cx} {X0 : Nat -> Prop} {st0 : St} {a0 : Act} (h0 : Rep P C0 X0 st0 a0 w gh) (hns : Region.noSelect ops = true) (L : List (Nat × Sch)) :
   ∀ (pre : List Nat) (l : Array Bool) (n : Nat) {st : St} {a : Act} {w1 : World} {gh1 : Gh}, Rep P (C0.here w gh.S) No st a w1 gh1 -> preB ops L pre l n = true -> aPre P (C0.here w gh.S) ops L pre st (Q .normal) ->
   wpAnyH P .any ops (fun e a' w' => match e with | .normal => Up P (C0.here w gh.S) (Q .normal) a' w' | _ => False) (fun w' => ∀ k, gh.S k -> w'.heap[k]? = w.heap[k]?) n l a w1
 | [], l, 0, st, a, w1, gh1, h, hb, hk => by simp [preB] at hb
 | _ :: _, l, 0, st, a, w1, gh1, h, hb, hk => by simp [preB] at hb
 | [], l, n + 1, st, a, w1, gh1, h, hb, hk => by
   simp only [preB, Bool.and_eq_true, beq_iff_eq] at hb
   obtain ⟨hb1, hb2, hb3⟩ := hb
   have hne : L.map (·.1) ≠ [] := by
     cases L with
     | nil => simp at hb2
     | cons p t => simp
   refine wpAnyH_all (rs := L.map (·.1)) hb1 hne (fun i' hi' => ?_)
   obtain ⟨p, hp, rfl⟩ := List.mem_map.1 hi'
   have hk := zkh hk p hp
   have hbp := List.all_eq_true.1 hb3 p hp
   unfold zcC at hk
   split at hk
   case h_2 => exact hk.elim
   rename_i o ho
   obtain ⟨hdst, hk⟩ := hk
   unfold wpOp
   simp only [ho]
   have hop := ZK (Q := fun e a' w' => match e with | .normal => Up P (C0.here w gh.S) (Q .normal) a' w' | _ => False) hz h hdst hk
   have next : ∀ a' w', Up P (C0.here w gh.S) (fun st' => Xn P (C0.here w gh.S) ops p.2 st' (Q .normal)) a' w' -> (∀ k, gh.S k -> w'.heap[k]? = w.heap[k]?) /\
       wpAnyH P .any ops (fun e a' w' => match e with | .normal => Up P (C0.here w gh.S) (Q .normal) a' w' | _ => False) (fun w' => ∀ k, gh.S k -> w'.heap[k]? = w.heap[k]?) n (l.setIfInBounds p.1 true) a' w' := fun a' w' ⟨st', gh', hk', h'⟩ =>
     ⟨h0.lent h', zeu hz h0 hns p.2 _ _ h' hbp hk'⟩
   split
   · rename_i hw
     rw [if_pos hw] at hop
     exact Or.inl (Oper.wp_mono next hop)
   · rename_i hw
     rw [if_neg hw] at hop
     exact next _ _ hop
 | i :: r, l, n + 1, st, a, w1, gh1, h, hb, hk => by
   simp only [preB, Bool.and_eq_true] at hb
   obtain ⟨hb1, hb2⟩ := hb
   unfold aPre at hk
   split at hk
   case h_2 => exact hk.elim
   rename_i o ho
   obtain ⟨hdst, hk⟩ := hk
   split at hk
   case h_2 => exact hk.elim
   rename_i s v hp
   obtain ⟨y, hy, hv⟩ := zau (Sw := fun w' => ∀ k, gh.S k -> w'.heap[k]? = w.heap[k]?) hz h (fun w' hw k hk => by
     have h1 := h.sZ k hk
     exact (hw k h1).trans (h0.lent h k h1).symm) hp hk.1
   exact wpAnyH_take ho hns hb1.2 hb1.1 (fun c a w hq => hq.elim) hy (h0.lent h) (zfs hz h0 hns L r _ _ (h.dst (zap hdst) hv) hb2 hk.2)
theorem Tri.many (hz : xq P) {id : Nat} {ops : Array Oper} {Q : Exit -> St -> Prop} (pre : List Nat) (L : List (Nat × Sch)) (hm : P.follows .mixedOrders = true) (hb : zov ops pre L = true) (hk : ∀ C', C'.pin = C.pin -> aPre P C' ops L pre st (Q .normal)) : Tri P C st (.region id ops true) Q := fun a w gh hR => by
 simp only [zov, Bool.and_eq_true] at hb
 obtain ⟨hb1, hb2⟩ := hb
 have hd := hR.drew
 refine Code.wp_mono (fun e a' w' hq => ?_) (wp_region_held (S := fun w' => ∀ k, gh.S k -> w'.heap[k]? = w.drew.heap[k]?) hm ?_ (Q := fun e a' w' => match e with | .normal => Up P (C.here w.drew gh.S) (Q .normal) a' w' | _ => False))
 · cases e with
   | normal =>
     obtain ⟨st', gh', hk', h'⟩ := hq
     exact ⟨st', gh', hk', hd.back h'⟩
   | _ => exact hq.elim
 · exact zfs hz hd hb1 L pre (Array.replicate ops.size false) ops.size hd.here hb2 (Q := Q) (hk _ rfl)
end
attribute [go_sem] aAny aPre
set_option maxHeartbeats 8000000
theorem zrr : fo Tryz.prog 183 0 = some 0 := by kernel_rfl
theorem zrq : fo Tryz.prog 183 1 = some 1 := by kernel_rfl
theorem zrp : fo Tryz.prog 183 2 = some 2 := by kernel_rfl
theorem rPkr : isR Tryz.prog 183 = some true := by kernel_rfl
theorem sPkr : szT Tryz.prog 183 = 3 := by kernel_rfl
theorem zPkr : zeroCells Tryz.prog 183 = some [.slice none 0 0, .slice none 0 0, .bool false] := by kernel_rfl
theorem zrf : xG Tryz.prog 183 = some [(0, 1), (1, 1), (2, 1)] := by kernel_rfl
attribute [go_sem] zrr zrq zrp rPkr sPkr zPkr zrf
theorem zro : fo Tryz.prog 178 0 = some 0 := by kernel_rfl
theorem zrn : fo Tryz.prog 178 1 = some 1 := by kernel_rfl
theorem zrm : fo Tryz.prog 178 2 = some 2 := by kernel_rfl
theorem rPks : isR Tryz.prog 178 = some true := by kernel_rfl
theorem sPks : szT Tryz.prog 178 = 3 := by kernel_rfl
theorem zPks : zeroCells Tryz.prog 178 = some [.slice none 0 0, .slice none 0 0, .bool false] := by kernel_rfl
theorem zre : xG Tryz.prog 178 = some [(0, 1), (1, 1), (2, 1)] := by kernel_rfl
attribute [go_sem] zro zrn zrm rPks sPks zPks zre
def pkC (N to : List NodeD) (b : Bool) : List D := [.row true 83 (rows (zg true) N), .row false 83 (rows (zg false) to), .sc (.bool b)]
theorem zmI {l : List Int} {i : Nat} (h : i < l.length) : l.drop i = l[i] :: l.drop (i + 1) := List.drop_eq_getElem_cons h
theorem zhd (V : Int -> PkS -> Int × PkS) {l : List Int} {i : Nat} (h : i < l.length) {t : PkS} (ht : t.bad = false) : runB V (l.drop i) t = ((V l[i] t).1 :: (runB V (l.drop (i + 1)) (V l[i] t).2).1, (runB V (l.drop (i + 1)) (V l[i] t).2).2) := by
 rw [zmI h]
 conv => lhs; unfold runB
 rw [if_neg (by simp [ht])]
theorem XX (l : List NodeD) (x : NodeD) : rows (zg false) l ++ [[D.sc (.int .i64 x.kind), .sc (.int .i64 x.num), .sc (.string x.name), .row false 3 (row1 cI x.kids)]] = rows (zg false) (l ++ [x]) := Xw (zg false) l x
def PutI (N : List NodeD) (d : Nat) : Prop := ∀ (k : Int) (s : PkS), s.to.length <= 300 -> SoundAt Tryz.prog 189 (fun uf => zu 0 [.ro (.bp 2000 0), .ro (.sc (.int .i64 k)), .ro (.sc (.int .i64 (11 - (d : Int))))]) [(2000, .box (pkC N s.to s.bad))]
 (fun rs st => rs = [(false, [cI (pkI N d k s).1])] /\ xp st.ob [(2000, .box (pkC N (pkI N d k s).2.to (pkI N d k s).2.bad))])
theorem zoW (N : List NodeD) (hN : N.length <= 1048576) (hK : ∀ x ∈ N, x.kids.length <= 1048576) (d : Nat) (hd : d <= 10) (ih : ∀ e, e < d -> PutI N e) : PutI N d := by
 intro k s hs
 have w1 : IntKind.i64.wrap ((N.length : Int) - 1) = (N.length : Int) - 1 := w64 (by omega) (by omega)
 have stop : ∀ s, pkI N d k s = yS s -> SoundAt Tryz.prog 189 (fun uf => zu 0 [.ro (.bp 2000 0), .ro (.sc (.int .i64 k)), .ro (.sc (.int .i64 (11 - (d : Int))))]) [(2000, .box (pkC N s.to s.bad))]
     (fun rs st => rs = [(false, [cI (yS s).1])] /\ xp st.ob [(2000, .box (pkC N (yS s).2.to (yS s).2.bad))]) -> SoundAt Tryz.prog 189 (fun uf => zu 0 [.ro (.bp 2000 0), .ro (.sc (.int .i64 k)), .ro (.sc (.int .i64 (11 - (d : Int))))]) [(2000, .box (pkC N s.to s.bad))]
     (fun rs st => rs = [(false, [cI (pkI N d k s).1])] /\ xp st.ob [(2000, .box (pkC N (pkI N d k s).2.to (pkI N d k s).2.bad))]) := fun s h1 h2 => by rw [h1]; exact h2
 obtain ⟨to, sb⟩ := s
 simp only at hs
 cases sb with
 | true =>
   refine stop _ (by cases d with | zero => rfl | succ d => unfold pkI; rw [if_pos (by simp)]) ?_
   simp only [yS]
   refine zn (fn := Tryz.f189) (c := Tryz.f189.body.getD .skip) (res := [.tm 6]) (n := 97) zf (by kernel_rfl) (by rfl) (by kernel_rfl) (by rfl) (by rfl) (by simp [zu]) (fun uf ub C hpin hpin2 hfull => ?_)
   simp only [Tryz.f189, Option.getD_some]
   refine Tri.step zf ?_
   simp +decide only [pkC, hpin, hpin2, go_sem, reduceAdd, reduceMul]
   refine Tri.step zf ?_
   simp +decide only [pkC, hpin, hpin2, go_sem, reduceAdd, reduceMul]
 | false =>
 have hin := in' k 0 (N.length - 1)
 cases hi : inI k 0 (N.length - 1) with
 | false =>
   rw [hi] at hin
   refine stop _ (by cases d with | zero => rfl | succ d => unfold pkI; rw [if_pos (by simp [hi])]) ?_
   simp only [yS]
   refine zn (fn := Tryz.f189) (c := Tryz.f189.body.getD .skip) (res := [.tm 6]) (n := 97) zf (by kernel_rfl) (by rfl) (by kernel_rfl) (by rfl) (by rfl) (by simp [zu]) (fun uf ub C hpin hpin2 hfull => ?_)
   simp only [Tryz.f189, Option.getD_some]
   refine Tri.step zf ?_
   simp +decide only [pkC, hpin, hpin2, go_sem, reduceAdd, reduceMul]
   refine Tri.step zf ?_
   simp +decide only [w1, pkC, hpin, hpin2, go_sem, reduceAdd, reduceMul]
   refine zd hin hpin ?_
   simp +decide only [w1, pkC, hpin, hpin2, go_sem, reduceAdd, reduceMul]
 | true =>
 rw [hi] at hin
 have hr := zA hi
 obtain ⟨n, rfl⟩ : ∃ n : Nat, k = n := ⟨k.toNat, by omega⟩
 have hnl : n < N.length := by omega
 by_cases h10 : (10 : Int) < 11 - (d : Int)
 · have e10 : ((10 : Int) < 11 - (d : Int)) = True := eq_true h10
   have hd0 : d = 0 := by omega
   refine stop _ (by subst hd0; rfl) ?_
   simp only [yS]
   refine zn (fn := Tryz.f189) (c := Tryz.f189.body.getD .skip) (res := [.tm 6]) (n := 97) zf (by kernel_rfl) (by rfl) (by kernel_rfl) (by rfl) (by rfl) (by simp [zu]) (fun uf ub C hpin hpin2 hfull => ?_)
   simp only [Tryz.f189, Option.getD_some]
   refine Tri.step zf ?_
   simp +decide only [pkC, hpin, hpin2, go_sem, reduceAdd, reduceMul]
   refine Tri.step zf ?_
   simp +decide only [w1, pkC, hpin, hpin2, go_sem, reduceAdd, reduceMul]
   refine zd hin hpin ?_
   simp +decide only [w1, e10, gt_iff_lt, pkC, hpin, hpin2, go_sem, reduceAdd, reduceMul]
 have e10 : ((10 : Int) < 11 - (d : Int)) = False := eq_false h10
 by_cases h300 : 300 <= to.length
 · have e300 : ((300 : Int) <= (to.length : Int)) = True := eq_true (by omega)
   refine stop _ (by cases d with | zero => rfl | succ d => unfold pkI; rw [if_pos (by simp [h300])]) ?_
   simp only [yS]
   refine zn (fn := Tryz.f189) (c := Tryz.f189.body.getD .skip) (res := [.tm 6]) (n := 97) zf (by kernel_rfl) (by rfl) (by kernel_rfl) (by rfl) (by rfl) (by simp [zu]) (fun uf ub C hpin hpin2 hfull => ?_)
   simp only [Tryz.f189, Option.getD_some]
   refine Tri.step zf ?_
   simp +decide only [pkC, hpin, hpin2, go_sem, reduceAdd, reduceMul]
   refine Tri.step zf ?_
   simp +decide only [w1, pkC, hpin, hpin2, go_sem, reduceAdd, reduceMul]
   refine zd hin hpin ?_
   simp +decide only [w1, e10, e300, gt_iff_lt, ge_iff_le, pkC, hpin, hpin2, go_sem, reduceAdd, reduceMul]
 have e300 : ((300 : Int) <= (to.length : Int)) = False := eq_false (by omega)
 obtain ⟨e, rfl⟩ : ∃ e, d = e + 1 := ⟨d - 1, by omega⟩
 have wd : IntKind.i64.wrap (11 - ((e + 1 : Nat) : Int) + 1) = 11 - (e : Int) := by rw [w64 (by omega) (by omega)]; omega
 have hrec := ih e (by omega)
 unfold PutI at hrec
 have hmost := fun k s h => XT N e k s h
 have hx : (rows (zg true) N).getD n [] = zg true N[n] := zi _ _ hnl
 have hkx := hK N[n] (List.getElem_mem hnl)
 have hc1 : ((n : Int) < (N.length : Int)) = True := eq_true (by omega)
 have hpk : pkI N (e + 1) n ⟨to, false⟩ = if (runB (pkI N e) N[n].kids ⟨to, false⟩).2.bad then (-1, (runB (pkI N e) N[n].kids ⟨to, false⟩).2) else
     if decide (300 <= (runB (pkI N e) N[n].kids ⟨to, false⟩).2.to.length) then yS (runB (pkI N e) N[n].kids ⟨to, false⟩).2 else zay N[n] (runB (pkI N e) N[n].kids ⟨to, false⟩) := by
   conv => lhs; unfold pkI
   rw [if_neg (by simp [hi]; omega), zG hnl]
 rw [hpk]
 dsimp only
 generalize N[n] = x at hx hkx
 generalize hV : pkI N e = V at hrec hmost
 obtain ⟨R, hR⟩ : ∃ R, runB V x.kids ⟨to, false⟩ = R := ⟨_, rfl⟩
 rw [hR]
 refine zn (fn := Tryz.f189) (c := Tryz.f189.body.getD .skip) (res := [.tm 6]) (n := 97) zf (by kernel_rfl) (by rfl) (by kernel_rfl) (by rfl) (by rfl) (by simp [zu]) (fun uf ub C hpin hpin2 hfull => ?_)
 simp only [Tryz.f189, Option.getD_some]
 refine Tri.step zf ?_
 simp +decide only [pkC, hpin, hpin2, go_sem, reduceAdd, reduceMul]
 refine Tri.step zf ?_
 simp +decide only [w1, pkC, hpin, hpin2, go_sem, reduceAdd, reduceMul]
 refine zd hin hpin ?_
 simp +decide only [w1, e10, e300, gt_iff_lt, ge_iff_le, pkC, hpin, hpin2, go_sem, reduceAdd, reduceMul]
 refine Tri.step zf ?_
 simp +decide only [hc1, hx, zg, Int.natCast_nonneg, pkC, hpin, hpin2, go_sem, reduceAdd, reduceMul]
 refine Tri.step zf ?_
 simp +decide only [pkC, hpin, hpin2, go_sem, reduceAdd, reduceMul]
 refine Tri.ent ?_ (Ent.own 8 3 8 (hpin 8 rfl))
 refine Tri.step zf ?_
 simp +decide only [pkC, hpin, hpin2, go_sem, reduceAdd, reduceMul]
 refine Tri.loop (ι := Nat × List Int × PkS) (fun q => q.1 <= x.kids.length /\ q.2.1.length = q.1 /\ q.2.2.bad = false /\ q.2.2.to.length <= 300 /\ R = (q.2.1 ++ (runB V (x.kids.drop q.1) q.2.2).1, (runB V (x.kids.drop q.1) q.2.2).2))
   (fun q => ⟨97, [(0, .bp 2000 0), (2, vI (11 - ((e + 1 : Nat) : Int))), (7, .bp 7 0), (8, .ref 8 [] q.1), (50, roI x.kids), (51, vI x.kids.length), (52, vI q.1)], [(8, .row 3 (row1 cI q.2.1)), (7, .box (zg true x)), (2000, .box (pkC N q.2.2.to q.2.2.bad))]⟩) (fun q => x.kids.length - q.1) (0, [], ⟨to, false⟩) ⟨by simp, rfl, rfl, hs, by simp [<- hR]⟩ ?_ ?_
 · refine Ent.weak ?_ ?_ ?_ ?_ <;> simp +decide [zQ, subT, subB, zl, zk, zm, St.get, look, vI, vB, vS, cI, cS, cB, zg, pkC, roI, row1]
 · rintro ⟨i, acc, tt, tb⟩ ⟨hi2, hal, htb, htl, hRe⟩
   simp only at hi2 hal htb htl hRe |-
   subst htb
   refine ze zf _ ?_
   by_cases h' : i < x.kids.length
   · have e1 : ((i : Int) < (x.kids.length : Int)) = True := by simp [h']
     rw [zhd V h' rfl] at hRe
     have hcall := hrec x.kids[i] ⟨tt, false⟩ htl
     have htl2 := hmost x.kids[i] ⟨tt, false⟩ htl
     generalize V x.kids[i] ⟨tt, false⟩ = r at hRe hcall htl2
     obtain ⟨ra, t2, t2b⟩ := r
     simp only at hRe hcall htl2
     simp only [pkC, cI] at hcall
     have hb1 : i + 1 <= 140737488355328 := by omega
     have hb2 : (i + 1) * 8 <= 140737488355328 := by omega
     have hsn := Zq cI acc ra
     simp only [cI] at hsn
     have hal2 : (acc ++ [ra]).length = i + 1 := by simp [hal]
     simp +decide only [e1, h', wd, hal, zt _ _ h', zg, Int.natCast_nonneg, vB, vI, pkC, hpin, hpin2, go_sem, reduceAdd, reduceMul]
     refine yu hcall hpin hfull [(2000, 2000)] [] [(2000, 2000)] ⟨rfl, rfl, rfl, rfl⟩ (fun uf => ?_) ?_
     · simp +decide only [pkC, hpin, hpin2, go_sem, reduceAdd, reduceMul]
     cases t2b with
     | true =>
       rw [YR V _ rfl] at hRe
       simp only at hRe
       have hR2 : R.2 = ⟨t2, true⟩ := by rw [hRe]
       rw [hR2]
       simp +decide only [pkC, hpin, hpin2, go_sem, reduceAdd, reduceMul]
     | false =>
       simp +decide only [hal, hal2, hb1, hb2, hsn, pkC, hpin, hpin2, go_sem, reduceAdd, reduceMul]
       refine ⟨(i + 1, acc ++ [ra], ⟨t2, false⟩), ⟨h', by simp [hal], rfl, htl2, by rw [hRe]; simp⟩, by show x.kids.length - (i + 1) < x.kids.length - i; omega, Ent.weak ?_ ?_ ?_ ?_⟩
       all_goals simp +decide [zQ, subT, subB, zl, zk, zm, St.get, look, vI, vB, vS, cI, cS, cB, zg, pkC, roI, hsn, hal, w64s (n := x.kids.length) h' (by omega)]
   · have hil : i = x.kids.length := by omega
     subst hil
     have e1 : ((x.kids.length : Int) < (x.kids.length : Int)) = False := by simp
     rw [List.drop_length] at hRe
     simp only [runB, List.append_nil] at hRe
     subst hRe
     simp only
     rw [if_neg (by simp)]
     by_cases g300 : 300 <= tt.length
     · have f300 : ((300 : Int) <= (tt.length : Int)) = True := eq_true (by omega)
       have d300 : decide ((300 : Int) <= (tt.length : Int)) = true := decide_eq_true (by omega)
       rw [if_pos (by simpa using g300)]
       unfold yS
       simp +decide only [e1, ge_iff_le, vB, vI, pkC, hpin, hpin2, go_sem, reduceAdd, reduceMul]
       refine Tri.step zf ?_
       simp +decide only [f300, ge_iff_le, pkC, hpin, hpin2, go_sem, reduceAdd, reduceMul]
     · have f300 : ((300 : Int) <= (tt.length : Int)) = False := eq_false (by omega)
       have d300 : decide ((300 : Int) <= (tt.length : Int)) = false := decide_eq_false (by omega)
       rw [if_neg (by simpa using g300)]
       unfold zay
       have hsn := XX tt ⟨x.kind, x.num, x.name, acc⟩
       have hb1 : tt.length + 1 <= 140737488355328 := by omega
       have hb2 : (tt.length + 1) * 56 <= 140737488355328 := by omega
       have w2 : IntKind.i64.wrap (((tt.length + 1 : Nat) : Int) - 1) = tt.length := by rw [show (((tt.length + 1 : Nat) : Int) - 1) = tt.length by omega]; exact w64 (by omega) (by omega)
       simp +decide only [e1, ge_iff_le, vB, vI, pkC, hpin, hpin2, go_sem, reduceAdd, reduceMul]
       refine Tri.step zf ?_
       simp +decide only [f300, ge_iff_le, pkC, hpin, hpin2, go_sem, reduceAdd, reduceMul]
       refine Tri.step zf ?_
       simp +decide only [hal, zg, pkC, hpin, hpin2, go_sem, reduceAdd, reduceMul]
       refine Tri.step zf ?_
       refine Tri.fork zf (.one 0 true (.one 1 true (.one 2 true (.one 3 true (.two 4 (.one 5 false (.one 6 false (.one 7 false (.one 8 false (.one 9 false (.one 10 false .done)))))) 5 (.two 4 (.one 6 false (.one 7 false (.one 8 false (.one 9 false (.one 10 false .done))))) 6 (.one 4 false (.one 7 false (.one 8 false (.one 9 false (.one 10 false .done))))))))))) zS (by kernel_rfl) (fun C2 hC2 => ?_)
       have hp2 := zV hC2 hpin
       simp +decide only [hb1, hb2, hsn, pkC, hp2, hpin, hpin2, go_sem, reduceAdd, reduceMul]
       refine ⟨?_, ?_, ?_⟩ <;> refine ze zf _ ?_
       all_goals simp +decide only [w2, pkC, hpin, hpin2, go_sem, reduceAdd, reduceMul]
theorem zkA (N : List NodeD) (hN : N.length <= 1048576) (hK : ∀ x ∈ N, x.kids.length <= 1048576) (d : Nat) (hd : d <= 10) : PutI N d := by
 induction d using Nat.strongRecOn with
 | ind d ih => exact zoW N hN hK d hd (fun e he => ih e he (by omega))
def PutR (N : List NodeD) (d : Nat) : Prop := ∀ (k : Int) (s : PkS), s.to.length <= 400 -> SoundAt Tryz.prog 186 (fun uf => zu 0 [.ro (.bp 2000 0), .ro (.sc (.int .i64 k)), .ro (.sc (.int .i64 (11 - (d : Int))))]) [(2000, .box (pkC N s.to s.bad))]
 (fun rs st => rs = [(false, [cI (pkR N d k s).1])] /\ xp st.ob [(2000, .box (pkC N (pkR N d k s).2.to (pkR N d k s).2.bad))])
theorem zoV (N : List NodeD) (hN : N.length <= 1048576) (hK : ∀ x ∈ N, x.kids.length <= 1048576) (d : Nat) (hd : d <= 10) (ih : ∀ e, e < d -> PutR N e) : PutR N d := by
 intro k s hs
 have w1 : IntKind.i64.wrap ((N.length : Int) - 1) = (N.length : Int) - 1 := w64 (by omega) (by omega)
 have stop : ∀ s, pkR N d k s = yS s -> SoundAt Tryz.prog 186 (fun uf => zu 0 [.ro (.bp 2000 0), .ro (.sc (.int .i64 k)), .ro (.sc (.int .i64 (11 - (d : Int))))]) [(2000, .box (pkC N s.to s.bad))]
     (fun rs st => rs = [(false, [cI (yS s).1])] /\ xp st.ob [(2000, .box (pkC N (yS s).2.to (yS s).2.bad))]) -> SoundAt Tryz.prog 186 (fun uf => zu 0 [.ro (.bp 2000 0), .ro (.sc (.int .i64 k)), .ro (.sc (.int .i64 (11 - (d : Int))))]) [(2000, .box (pkC N s.to s.bad))]
     (fun rs st => rs = [(false, [cI (pkR N d k s).1])] /\ xp st.ob [(2000, .box (pkC N (pkR N d k s).2.to (pkR N d k s).2.bad))]) := fun s h1 h2 => by rw [h1]; exact h2
 obtain ⟨to, sb⟩ := s
 simp only at hs
 cases sb with
 | true =>
   refine stop _ (by cases d with | zero => rfl | succ d => unfold pkR; rw [if_pos (by simp)]) ?_
   simp only [yS]
   refine zn (fn := Tryz.f186) (c := Tryz.f186.body.getD .skip) (res := [.tm 6]) (n := 122) zf (by kernel_rfl) (by rfl) (by kernel_rfl) (by rfl) (by rfl) (by simp [zu]) (fun uf ub C hpin hpin2 hfull => ?_)
   simp only [Tryz.f186, Option.getD_some]
   refine Tri.step zf ?_
   simp +decide only [pkC, hpin, hpin2, go_sem, reduceAdd, reduceMul]
   refine Tri.step zf ?_
   simp +decide only [pkC, hpin, hpin2, go_sem, reduceAdd, reduceMul]
 | false =>
 by_cases h10 : (10 : Int) < 11 - (d : Int)
 · have e10 : ((10 : Int) < 11 - (d : Int)) = True := eq_true h10
   have hd0 : d = 0 := by omega
   refine stop _ (by subst hd0; rfl) ?_
   simp only [yS]
   refine zn (fn := Tryz.f186) (c := Tryz.f186.body.getD .skip) (res := [.tm 6]) (n := 122) zf (by kernel_rfl) (by rfl) (by kernel_rfl) (by rfl) (by rfl) (by simp [zu]) (fun uf ub C hpin hpin2 hfull => ?_)
   simp only [Tryz.f186, Option.getD_some]
   refine Tri.step zf ?_
   simp +decide only [pkC, hpin, hpin2, go_sem, reduceAdd, reduceMul]
   refine Tri.step zf ?_
   simp +decide only [e10, gt_iff_lt, pkC, hpin, hpin2, go_sem, reduceAdd, reduceMul]
 have e10 : ((10 : Int) < 11 - (d : Int)) = False := eq_false h10
 have hin := xC k 0 (N.length - 1)
 cases hi : inI k 0 (N.length - 1) with
 | false =>
   rw [hi] at hin
   refine stop _ (by cases d with | zero => rfl | succ d => unfold pkR; rw [if_pos (by simp [hi])]) ?_
   simp only [yS]
   refine zn (fn := Tryz.f186) (c := Tryz.f186.body.getD .skip) (res := [.tm 6]) (n := 122) zf (by kernel_rfl) (by rfl) (by kernel_rfl) (by rfl) (by rfl) (by simp [zu]) (fun uf ub C hpin hpin2 hfull => ?_)
   simp only [Tryz.f186, Option.getD_some]
   refine Tri.step zf ?_
   simp +decide only [pkC, hpin, hpin2, go_sem, reduceAdd, reduceMul]
   refine Tri.step zf ?_
   simp +decide only [e10, gt_iff_lt, w1, pkC, hpin, hpin2, go_sem, reduceAdd, reduceMul]
   refine zd hin hpin ?_
   simp +decide only [w1, pkC, hpin, hpin2, go_sem, reduceAdd, reduceMul]
 | true =>
 rw [hi] at hin
 have hr := zA hi
 obtain ⟨n, rfl⟩ : ∃ n : Nat, k = n := ⟨k.toNat, by omega⟩
 have hnl : n < N.length := by omega
 by_cases h300 : 300 < to.length
 · have e300 : ((300 : Int) < (to.length : Int)) = True := eq_true (by omega)
   refine stop _ (by cases d with | zero => rfl | succ d => unfold pkR; rw [if_pos (by simp [h300])]) ?_
   simp only [yS]
   refine zn (fn := Tryz.f186) (c := Tryz.f186.body.getD .skip) (res := [.tm 6]) (n := 122) zf (by kernel_rfl) (by rfl) (by kernel_rfl) (by rfl) (by rfl) (by simp [zu]) (fun uf ub C hpin hpin2 hfull => ?_)
   simp only [Tryz.f186, Option.getD_some]
   refine Tri.step zf ?_
   simp +decide only [pkC, hpin, hpin2, go_sem, reduceAdd, reduceMul]
   refine Tri.step zf ?_
   simp +decide only [w1, e10, gt_iff_lt, pkC, hpin, hpin2, go_sem, reduceAdd, reduceMul]
   refine zd hin hpin ?_
   simp +decide only [w1, e10, e300, gt_iff_lt, pkC, hpin, hpin2, go_sem, reduceAdd, reduceMul]
 have e300 : ((300 : Int) < (to.length : Int)) = False := eq_false (by omega)
 obtain ⟨e, rfl⟩ : ∃ e, d = e + 1 := ⟨d - 1, by omega⟩
 have wd : IntKind.i64.wrap (11 - ((e + 1 : Nat) : Int) + 1) = 11 - (e : Int) := by rw [w64 (by omega) (by omega)]; omega
 have hrec := ih e (by omega)
 unfold PutR at hrec
 have hmost := fun k s h => zlX N e k s 320 (by omega) h
 have hx : (rows (zg true) N).getD n [] = zg true N[n] := zi _ _ hnl
 have hkx := hK N[n] (List.getElem_mem hnl)
 have hc1 : ((n : Int) < (N.length : Int)) = True := eq_true (by omega)
 have hpk : pkR N (e + 1) n ⟨to, false⟩ = zay N[n] (runB (pkR N e) N[n].kids ⟨to, false⟩) := by
   conv => lhs; unfold pkR
   rw [if_neg (by simp [hi]; omega), zG hnl]
 rw [hpk]
 dsimp only
 generalize N[n] = x at hx hkx
 generalize hV : pkR N e = V at hrec hmost
 obtain ⟨R, hR⟩ : ∃ R, runB V x.kids ⟨to, false⟩ = R := ⟨_, rfl⟩
 rw [hR]
 unfold zay
 refine zn (fn := Tryz.f186) (c := Tryz.f186.body.getD .skip) (res := [.tm 6]) (n := 122) zf (by kernel_rfl) (by rfl) (by kernel_rfl) (by rfl) (by rfl) (by simp [zu]) (fun uf ub C hpin hpin2 hfull => ?_)
 simp only [Tryz.f186, Option.getD_some]
 refine Tri.step zf ?_
 simp +decide only [pkC, hpin, hpin2, go_sem, reduceAdd, reduceMul]
 refine Tri.step zf ?_
 simp +decide only [w1, e10, gt_iff_lt, pkC, hpin, hpin2, go_sem, reduceAdd, reduceMul]
 refine zd hin hpin ?_
 simp +decide only [w1, e10, e300, gt_iff_lt, pkC, hpin, hpin2, go_sem, reduceAdd, reduceMul]
 refine Tri.stop zf ⟨122, [(0, .bp 2000 0), (1, vI n), (2, vI (11 - ((e + 1 : Nat) : Int))), (7, .bp 7 0)], [(7, .box [cI x.kind, cI x.num, cS x.name, .sc (.slice none 0 0)]), (2000, .box (pkC N to false))]⟩ ?_ ?_
 · refine Tri.many zf [0, 1, 2, 4, 8, 9, 10, 12, 16, 17, 18, 20] [(3, (.one 5 true (.one 6 true (.one 7 true (.three 11 (.one 13 true (.one 14 true (.one 15 true (.two 19 (.one 21 true (.one 22 true (.one 23 true (.one 24 true (.one 25 false (.one 26 false .done)))))) 25 (.one 19 false (.one 21 false (.one 22 false (.one 23 false (.one 24 false (.one 26 false .done)))))))))) 19 (.one 21 true (.one 22 true (.one 23 true (.two 11 (.one 13 true (.one 14 true (.one 15 true (.one 24 true (.one 25 false (.one 26 false .done)))))) 25 (.one 11 false (.one 13 false (.one 14 false (.one 15 false (.one 24 false (.one 26 false .done)))))))))) 25 (.two 11 (.one 13 true (.one 14 true (.one 15 true (.one 19 false (.one 21 false (.one 22 false (.one 23 false (.one 24 false (.one 26 false .done))))))))) 19 (.one 21 true (.one 22 true (.one 23 true (.one 11 false (.one 13 false (.one 14 false (.one 15 false (.one 24 false (.one 26 false .done))))))))))))))), (11, (.one 13 true (.one 14 true (.one 15 true (.three 3 (.one 5 true (.one 6 true (.one 7 true (.two 19 (.one 21 true (.one 22 true (.one 23 true (.one 24 true (.one 25 false (.one 26 false .done)))))) 25 (.one 19 false (.one 21 false (.one 22 false (.one 23 false (.one 24 false (.one 26 false .done)))))))))) 19 (.one 21 true (.one 22 true (.one 23 true (.two 3 (.one 5 true (.one 6 true (.one 7 true (.one 24 true (.one 25 false (.one 26 false .done)))))) 25 (.one 3 false (.one 5 false (.one 6 false (.one 7 false (.one 24 false (.one 26 false .done)))))))))) 25 (.two 3 (.one 5 true (.one 6 true (.one 7 true (.one 19 false (.one 21 false (.one 22 false (.one 23 false (.one 24 false (.one 26 false .done))))))))) 19 (.one 21 true (.one 22 true (.one 23 true (.one 3 false (.one 5 false (.one 6 false (.one 7 false (.one 24 false (.one 26 false .done))))))))))))))), (19, (.one 21 true (.one 22 true (.one 23 true (.three 3 (.one 5 true (.one 6 true (.one 7 true (.two 11 (.one 13 true (.one 14 true (.one 15 true (.one 24 true (.one 25 false (.one 26 false .done)))))) 25 (.one 11 false (.one 13 false (.one 14 false (.one 15 false (.one 24 false (.one 26 false .done)))))))))) 11 (.one 13 true (.one 14 true (.one 15 true (.two 3 (.one 5 true (.one 6 true (.one 7 true (.one 24 true (.one 25 false (.one 26 false .done)))))) 25 (.one 3 false (.one 5 false (.one 6 false (.one 7 false (.one 24 false (.one 26 false .done)))))))))) 25 (.two 3 (.one 5 true (.one 6 true (.one 7 true (.one 11 false (.one 13 false (.one 14 false (.one 15 false (.one 24 false (.one 26 false .done))))))))) 11 (.one 13 true (.one 14 true (.one 15 true (.one 3 false (.one 5 false (.one 6 false (.one 7 false (.one 24 false (.one 26 false .done))))))))))))))), (25, (.three 3 (.one 5 true (.one 6 true (.one 7 true (.two 11 (.one 13 true (.one 14 true (.one 15 true (.one 19 false (.one 21 false (.one 22 false (.one 23 false (.one 24 false (.one 26 false .done))))))))) 19 (.one 21 true (.one 22 true (.one 23 true (.one 11 false (.one 13 false (.one 14 false (.one 15 false (.one 24 false (.one 26 false .done))))))))))))) 11 (.one 13 true (.one 14 true (.one 15 true (.two 3 (.one 5 true (.one 6 true (.one 7 true (.one 19 false (.one 21 false (.one 22 false (.one 23 false (.one 24 false (.one 26 false .done))))))))) 19 (.one 21 true (.one 22 true (.one 23 true (.one 3 false (.one 5 false (.one 6 false (.one 7 false (.one 24 false (.one 26 false .done))))))))))))) 19 (.one 21 true (.one 22 true (.one 23 true (.two 3 (.one 5 true (.one 6 true (.one 7 true (.one 11 false (.one 13 false (.one 14 false (.one 15 false (.one 24 false (.one 26 false .done))))))))) 11 (.one 13 true (.one 14 true (.one 15 true (.one 3 false (.one 5 false (.one 6 false (.one 7 false (.one 24 false (.one 26 false .done)))))))))))))))] zS (by kernel_rfl) (fun C2 hC2 => ?_)
   have hp2 := zV hC2 hpin
   simp +decide only [hc1, hx, zg, Int.natCast_nonneg, pkC, hp2, hpin, hpin2, go_sem, reduceAdd, reduceMul]
   repeat' (refine And.intro ?_ ?_)
   all_goals refine Ent.weak ?_ ?_ ?_ ?_
   all_goals simp +decide [zQ, subT, subB, zl, zk, zm, St.get, look, vI, vB, vS, cI, cS, cB, zg, pkC, roI]
 refine Tri.ent ?_ (Ent.nilr 7 3 3)
 refine Tri.step zf ?_
 simp +decide only [pkC, hpin, hpin2, go_sem, reduceAdd, reduceMul]
 refine Tri.loop (ι := Nat × List Int × PkS) (fun q => q.1 <= x.kids.length /\ q.2.1.length = q.1 /\ q.2.2.to.length <= 320 /\ R = (q.2.1 ++ (runB V (x.kids.drop q.1) q.2.2).1, (runB V (x.kids.drop q.1) q.2.2).2))
   (fun q => ⟨122, [(0, .bp 2000 0), (1, vI n), (2, vI (11 - ((e + 1 : Nat) : Int))), (7, .bp 7 0), (8, vI q.1)], [(7, .box [cI x.kind, cI x.num, cS x.name, .row false 3 (row1 cI q.2.1)]), (2000, .box (pkC N q.2.2.to q.2.2.bad))]⟩) (fun q => x.kids.length - q.1) (0, [], ⟨to, false⟩) ⟨by simp, rfl, by simp only; omega, by simp [<- hR]⟩ ?_ ?_
 · refine Ent.weak ?_ ?_ ?_ ?_ <;> simp +decide [zQ, subT, subB, zl, zk, zm, St.get, look, vI, vB, vS, cI, cS, cB, zg, pkC, roI, row1]
 · rintro ⟨i, acc, tt, tb⟩ ⟨hi2, hal, htl, hRe⟩
   simp only at hi2 hal htl hRe |-
   have hdel : (List.drop i x.kids) = [] \/ i < x.kids.length := by
     by_cases h : i < x.kids.length
     · exact Or.inr h
     · exact Or.inl (List.drop_eq_nil_of_le (by omega))
   refine ze zf _ ?_
   by_cases h' : i < x.kids.length
   · have e1 : ((i : Int) < (x.kids.length : Int)) = True := by simp [h']
     cases tb with
     | true =>
       rw [YR V _ rfl] at hRe
       simp only [List.append_nil] at hRe
       simp +decide only [hc1, hx, e1, zg, Int.natCast_nonneg, vB, vI, pkC, hpin, hpin2, go_sem, reduceAdd, reduceMul]
       subst hRe
       have hsn := XX tt ⟨x.kind, x.num, x.name, acc⟩
       have hb1 : tt.length + 1 <= 140737488355328 := by omega
       have hb2 : (tt.length + 1) * 56 <= 140737488355328 := by omega
       have w2 : IntKind.i64.wrap (((tt.length + 1 : Nat) : Int) - 1) = tt.length := by rw [show (((tt.length + 1 : Nat) : Int) - 1) = tt.length by omega]; exact w64 (by omega) (by omega)
       refine Tri.step zf ?_
       refine Tri.fork zf (.one 0 true (.one 1 true (.one 2 true (.one 3 true (.two 4 (.one 5 false (.one 6 false (.one 7 false (.one 8 false (.one 9 false (.one 10 false .done)))))) 5 (.two 4 (.one 6 false (.one 7 false (.one 8 false (.one 9 false (.one 10 false .done))))) 6 (.one 4 false (.one 7 false (.one 8 false (.one 9 false (.one 10 false .done))))))))))) zS (by kernel_rfl) (fun C2 hC2 => ?_)
       have hp2 := zV hC2 hpin
       simp +decide only [hb1, hb2, hsn, pkC, hp2, hpin, hpin2, go_sem, reduceAdd, reduceMul]
       refine ⟨?_, ?_, ?_⟩ <;> refine ze zf _ ?_
       all_goals simp +decide only [w2, pkC, hpin, hpin2, go_sem, reduceAdd, reduceMul]
     | false =>
     rw [zhd V h' rfl] at hRe
     have hcall := hrec x.kids[i] ⟨tt, false⟩ (by simp only; omega)
     have htl2 := hmost x.kids[i] ⟨tt, false⟩ htl
     generalize V x.kids[i] ⟨tt, false⟩ = r at hRe hcall htl2
     obtain ⟨ra, t2⟩ := r
     simp only at hRe hcall htl2
     simp only [pkC, cI] at hcall
     have hb1 : i + 1 <= 140737488355328 := by omega
     have hb2 : (i + 1) * 8 <= 140737488355328 := by omega
     have hsn := Zq cI acc ra
     simp only [cI] at hsn
     have hal2 : (acc ++ [ra]).length = i + 1 := by simp [hal]
     simp +decide only [hc1, hx, e1, h', wd, hal, zt _ _ h', zg, Int.natCast_nonneg, vB, vI, pkC, hpin, hpin2, go_sem, reduceAdd, reduceMul]
     refine yu hcall hpin hfull [(2000, 2000)] [] [(2000, 2000)] ⟨rfl, rfl, rfl, rfl⟩ (fun uf => ?_) ?_
     · simp +decide only [pkC, hpin, hpin2, go_sem, reduceAdd, reduceMul]
     simp +decide only [hal, hal2, hb1, hb2, hsn, pkC, hpin, hpin2, go_sem, reduceAdd, reduceMul]
     refine ⟨(i + 1, acc ++ [ra], t2), ⟨h', by simp [hal], htl2, by rw [hRe]; simp⟩, by show x.kids.length - (i + 1) < x.kids.length - i; omega, Ent.weak ?_ ?_ ?_ ?_⟩
     all_goals simp +decide [zQ, subT, subB, zl, zk, zm, St.get, look, vI, vB, vS, cI, cS, cB, zg, pkC, roI, hsn, hal, w64s (n := x.kids.length) h' (by omega)]
   · have hil : i = x.kids.length := by omega
     subst hil
     have e1 : ((x.kids.length : Int) < (x.kids.length : Int)) = False := by simp
     rw [List.drop_length] at hRe
     simp only [runB, List.append_nil] at hRe
     simp +decide only [hc1, hx, e1, zg, Int.natCast_nonneg, vB, vI, pkC, hpin, hpin2, go_sem, reduceAdd, reduceMul]
     subst hRe
     have hsn := XX tt ⟨x.kind, x.num, x.name, acc⟩
     have hb1 : tt.length + 1 <= 140737488355328 := by omega
     have hb2 : (tt.length + 1) * 56 <= 140737488355328 := by omega
     have w2 : IntKind.i64.wrap (((tt.length + 1 : Nat) : Int) - 1) = tt.length := by rw [show (((tt.length + 1 : Nat) : Int) - 1) = tt.length by omega]; exact w64 (by omega) (by omega)
     refine Tri.step zf ?_
     refine Tri.fork zf (.one 0 true (.one 1 true (.one 2 true (.one 3 true (.two 4 (.one 5 false (.one 6 false (.one 7 false (.one 8 false (.one 9 false (.one 10 false .done)))))) 5 (.two 4 (.one 6 false (.one 7 false (.one 8 false (.one 9 false (.one 10 false .done))))) 6 (.one 4 false (.one 7 false (.one 8 false (.one 9 false (.one 10 false .done))))))))))) zS (by kernel_rfl) (fun C2 hC2 => ?_)
     have hp2 := zV hC2 hpin
     simp +decide only [hb1, hb2, hsn, pkC, hp2, hpin, hpin2, go_sem, reduceAdd, reduceMul]
     refine ⟨?_, ?_, ?_⟩ <;> refine ze zf _ ?_
     all_goals simp +decide only [w2, pkC, hpin, hpin2, go_sem, reduceAdd, reduceMul]
theorem zkz (N : List NodeD) (hN : N.length <= 1048576) (hK : ∀ x ∈ N, x.kids.length <= 1048576) (d : Nat) (hd : d <= 10) : PutR N d := by
 induction d using Nat.strongRecOn with
 | ind d ih => exact zoV N hN hK d hd (fun e he => ih e he (by omega))
theorem zcX {α : Type} {f g : α -> Nat} : ∀ l : List α, (∀ x ∈ l, f x <= g x) -> sumN f l <= sumN g l
 | [], _ => by simp [sumN]
 | a :: r, h => by
   have h1 := zcX r (fun x hx => h x (List.mem_cons_of_mem _ hx))
   have h2 := h a (List.mem_cons_self ..)
   simp only [sumN, List.map_cons, List.sum_cons] at h1 |-
   omega
theorem zaW {α : Type} (f g : α -> Nat) : ∀ l : List α, sumN (fun x => f x + g x) l = sumN f l + sumN g l
 | [] => by simp [sumN]
 | a :: r => by
   have h1 := zaW f g r
   simp only [sumN, List.map_cons, List.sum_cons] at h1 |-
   omega
theorem xy {α : Type} {f g : α -> Nat} (l : List α) (h : ∀ x ∈ l, f x = g x) : sumN f l = sumN g l := by
 unfold sumN
 rw [List.map_congr_left h]
theorem zaV {α : Type} (l : List α) : sumN (fun _ => 0) l = 0 := by
 induction l with
 | nil => rfl
 | cons a r ih => simp only [sumN, List.map_cons, List.sum_cons] at ih |-; omega
theorem zit (g : Nat -> Nat) (k : Nat) : ∀ n, k < n -> sumN (fun m => if m = k then g m else 0) (List.range n) = g k
 | 0, h => by omega
 | n + 1, h => by
   rw [List.range_succ, zcG]
   by_cases e : k = n
   · subst e
     have : sumN (fun m => if m = k then g m else 0) (List.range k) = sumN (fun _ => 0) (List.range k) := xy _ (fun x hx => by
       have := List.mem_range.1 hx
       rw [if_neg (by omega)])
     rw [this, zaV]; simp [sumN]
   · rw [zit g k n (by omega)]
     have : ¬ n = k := fun h => e h.symm
     simp [sumN, this]
theorem zeU (g : Nat -> Nat) (n : Nat) : ∀ ks : List Int, (∀ k ∈ ks, 0 <= k /\ k.toNat < n) -> sumN (fun k => g k.toNat) ks = sumN (fun m : Nat => ks.count (m : Int) * g m) (List.range n)
 | [], _ => by simp only [List.count_nil, Nat.zero_mul]; rw [zaV]; rfl
 | a :: r, h => by
   obtain ⟨h0, h1⟩ := h a (List.mem_cons_self ..)
   have ih := zeU g n r (fun k hk => h k (List.mem_cons_of_mem _ hk))
   rw [XQ, ih]
   have e : ∀ m ∈ List.range n, (a :: r).count (m : Int) * g m = (if m = a.toNat then g m else 0) + r.count (m : Int) * g m := fun m _ => by
     rw [List.count_cons]
     by_cases e : a = (m : Int)
     · have e2 : m = a.toNat := by omega
       have e3 : (a == (m : Int)) = true := by simpa using e
       rw [e3, if_pos e2, if_pos rfl, Nat.add_mul]; omega
     · have e2 : ¬ m = a.toNat := by omega
       have e3 : (a == (m : Int)) = false := by simpa using e
       rw [e3, if_neg e2]; simp
   rw [xy _ e, zaW, zit g a.toNat n h1]
theorem zgP (g : Nat -> Nat) (R : List Nat) : ∀ nodes : List NodeD, sumN (fun x => sumN (fun m : Nat => x.kids.count ((m : Nat) : Int) * g m) R) nodes = sumN (fun m : Nat => sumN (fun x => x.kids.count ((m : Nat) : Int)) nodes * g m) R
 | [] => by
   have : (fun m : Nat => sumN (fun x : NodeD => x.kids.count ((m : Nat) : Int)) [] * g m) = fun _ => 0 := by funext m; simp [sumN]
   rw [this, zaV]; rfl
 | a :: r => by
   rw [XQ, zgP g R r, <- zaW]
   apply xy
   intro m _
   rw [XQ, Nat.add_mul]
theorem zfc {nodes : List NodeD} (hD : Deep nodes) (h1 : ∀ m, m < nodes.length -> cntK nodes nodes.length m <= 1) (g : Nat -> Nat) : sumN (fun x => sumN (fun k => g k.toNat) x.kids) nodes <= sumN g (List.range nodes.length) := by
 have e : ∀ x ∈ nodes, sumN (fun k : Int => g k.toNat) x.kids = sumN (fun m => x.kids.count ((m : Nat) : Int) * g m) (List.range nodes.length) := fun x hx => by
   obtain ⟨i, hi, rfl⟩ := List.getElem_of_mem hx
   refine zeU g _ _ (fun k hk => ?_)
   obtain ⟨q0, q1, q2⟩ := hD.kid hi k hk
   exact ⟨q0, by omega⟩
 rw [xy _ e, zgP]
 apply zcX
 intro m hm
 have h2 := h1 m (List.mem_range.1 hm)
 unfold cntK at h2
 rw [List.take_length] at h2
 have := Nat.mul_le_mul_right (g m) h2
 omega
def szF (nodes : List NodeD) : Nat -> Int -> Nat
 | 0, _ => 0
 | d + 1, k => 3 + (nAt nodes k).kids.length + sumN (szF nodes d) (nAt nodes k).kids
def szB (nodes : List NodeD) (k : Int) : Nat := szF nodes (k.toNat + 1) k
theorem zjy {nodes : List NodeD} (hD : Deep nodes) : ∀ (d n : Nat), n < nodes.length -> n < d -> szF nodes d n = szB nodes n := by
 intro d
 induction d using Nat.strongRecOn with
 | ind d ih =>
 intro n hn hd
 obtain ⟨e, rfl⟩ : ∃ e, d = e + 1 := ⟨d - 1, by omega⟩
 unfold szB
 have e2 : ((n : Int).toNat + 1) = n + 1 := by omega
 rw [e2]
 unfold szF
 rw [zG hn]
 congr 1
 apply xy
 intro kid hk
 obtain ⟨q0, q1, q2⟩ := hD.kid hn kid hk
 obtain ⟨m, rfl⟩ : ∃ m : Nat, kid = m := ⟨kid.toNat, by omega⟩
 have h1 := ih e (by omega) m (by omega) (by omega)
 by_cases hne : n = e
 · subst hne; rfl
 · have h2 := ih n (by omega) m (by omega) (by omega)
   rw [h1, h2]
theorem zly {nodes : List NodeD} (hD : Deep nodes) {n : Nat} (hn : n < nodes.length) : szB nodes n = 3 + nodes[n].kids.length + sumN (szB nodes) nodes[n].kids := by
 have e2 : ((n : Int).toNat + 1) = n + 1 := by omega
 unfold szB
 rw [e2]
 conv => lhs; unfold szF
 rw [zG hn]
 congr 1
 apply xy
 intro kid hk
 obtain ⟨q0, q1, q2⟩ := hD.kid hn kid hk
 obtain ⟨m, rfl⟩ : ∃ m : Nat, kid = m := ⟨kid.toNat, by omega⟩
 exact zjy hD n m (by omega) (by omega)
theorem zeT (nodes : List NodeD) (f : NodeD -> Nat) : sumN (fun m : Nat => f (nAt nodes (m : Int))) (List.range nodes.length) = sumN f nodes := by
 unfold sumN
 congr 1
 apply List.ext_getElem
 · simp
 · intro i h1 h2
   have hi : i < nodes.length := by simpa using h1
   simp only [List.getElem_map, List.getElem_range]
   rw [zG hi]
theorem zlz (g : Nat -> Nat) {n k : Nat} (h : k < n) : g k <= sumN g (List.range n) := by
 have h1 := zit g k n h
 have h2 := zcX (f := fun m => if m = k then g m else 0) (g := g) (List.range n) (fun x _ => by split <;> omega)
 omega
theorem zlw {nodes : List NodeD} (hD : Deep nodes) (h1 : ∀ m, m < nodes.length -> cntK nodes nodes.length m <= 1) : ∀ d, sumN (fun m : Nat => szF nodes d (m : Int)) (List.range nodes.length) <= d * sumN (fun x => 3 + x.kids.length) nodes
 | 0 => by simp only [szF]; rw [zaV]; omega
 | d + 1 => by
   have ih := zlw hD h1 d
   have e : (fun m : Nat => szF nodes (d + 1) (m : Int)) = (fun m : Nat => (fun x : NodeD => 3 + x.kids.length) (nAt nodes (m : Int)) + (fun x : NodeD => sumN (szF nodes d) x.kids) (nAt nodes (m : Int))) := by funext m; rfl
   rw [e, zaW, zeT nodes (fun x => 3 + x.kids.length), zeT nodes (fun x => sumN (szF nodes d) x.kids)]
   have h2 := zfc hD h1 (fun m => szF nodes d (m : Int))
   have h3 : sumN (fun x : NodeD => sumN (fun k : Int => szF nodes d ((k.toNat : Nat) : Int)) x.kids) nodes = sumN (fun x => sumN (szF nodes d) x.kids) nodes := by
     apply xy
     intro x hx
     obtain ⟨i, hi, rfl⟩ := List.getElem_of_mem hx
     apply xy
     intro k hk
     obtain ⟨q0, q1, q2⟩ := hD.kid hi k hk
     have : ((k.toNat : Nat) : Int) = k := by omega
     rw [this]
   rw [h3] at h2
   rw [Nat.add_mul]
   omega
theorem zkO {nodes : List NodeD} (hD : Deep nodes) (h1 : ∀ m, m < nodes.length -> cntK nodes nodes.length m <= 1) : sumN (fun x => x.kids.length) nodes <= nodes.length := by
 have h2 := zfc hD h1 (fun _ => 1)
 have e1 : ∀ l : List Nat, sumN (fun _ => 1) l = l.length := fun l => by
   induction l with
   | nil => rfl
   | cons a r ih => rw [XQ, ih, List.length_cons]; omega
 have e2 : ∀ l : List Int, sumN (fun _ => 1) l = l.length := fun l => by
   induction l with
   | nil => rfl
   | cons a r ih => rw [XQ, ih, List.length_cons]; omega
 rw [e1, List.length_range] at h2
 rw [xy _ (fun x _ => e2 x.kids)] at h2
 exact h2
theorem zmM {α : Type} (c : Nat) (l : List α) : sumN (fun _ => c) l = c * l.length := by
 induction l with
 | nil => rfl
 | cons a r ih => rw [XQ, ih, List.length_cons, Nat.mul_add]; omega
theorem zlx {nodes : List NodeD} (hD : Deep nodes) (h1 : ∀ m, m < nodes.length -> cntK nodes nodes.length m <= 1) (hn : nodes.length <= 300) {k : Nat} (hk : k < nodes.length) : szB nodes k <= 360000 := by
 have h2 := zlw hD h1 nodes.length
 rw [zaW, zmM] at h2
 have h3 := zkO hD h1
 have h4 := zlz (fun m : Nat => szF nodes nodes.length (m : Int)) hk
 have h5 := zjy hD nodes.length k hk hk
 simp only [h5] at h4
 have h6 : nodes.length * (3 * nodes.length + sumN (fun x => x.kids.length) nodes) <= 300 * (3 * 300 + 300) := Nat.mul_le_mul hn (by omega)
 omega
structure LowD where
 locs : List Int
 words : List InsD
def LowD.le (s s2 : LowD) (b : Nat) : Prop := s.locs.length <= s2.locs.length /\ s2.locs.length <= s.locs.length + b /\ s.words.length <= s2.words.length /\ s2.words.length <= s.words.length + b
theorem LowD.le.trans {s s2 s3 : LowD} {a b : Nat} (h : s.le s2 a) (h2 : s2.le s3 b) : s.le s3 (a + b) := by
 obtain ⟨p1, p2, p3, p4⟩ := h
 obtain ⟨q1, q2, q3, q4⟩ := h2
 exact ⟨by omega, by omega, by omega, by omega⟩
theorem LowD.le.mono {s s2 : LowD} {a b : Nat} (h : s.le s2 a) (h2 : a <= b) : s.le s2 b := ⟨h.1, by have := h.2.1; omega, h.2.2.1, by have := h.2.2.2; omega⟩
theorem LowD.le.refl (s : LowD) : s.le s 0 := ⟨by omega, by omega, by omega, by omega⟩
theorem zru : fo Tryz.prog 145 0 = some 0 := by kernel_rfl
theorem zrt : fo Tryz.prog 145 1 = some 2 := by kernel_rfl
theorem zrs : fo Tryz.prog 145 2 = some 3 := by kernel_rfl
theorem rLow : isR Tryz.prog 145 = some true := by kernel_rfl
theorem sLow : szT Tryz.prog 145 = 7 := by kernel_rfl
theorem zLow : zeroCells Tryz.prog 145 = some [.slice none 0 0, .slice none 0 0, .slice none 0 0, .string ⟨#[]⟩, .int .i64 0, .slice none 0 0, .slice none 0 0] := by kernel_rfl
theorem zrg : xG Tryz.prog 145 = some [(0, 2), (2, 1), (3, 4)] := by kernel_rfl
attribute [go_sem] zru zrt zrs rLow sLow zLow zrg
def cA (k : Int) (a : List Int) : Int := if decide (9 <= k) then a.getD 1 0 else 0
def LetsIn (p : ProgramD) (l : List VarD) (n : Nat) : Prop := ∀ m, Reach p.nodes n m -> (nAt p.nodes m).kind = 13 -> 0 <= Za l (nAt p.nodes m).name
theorem LetsIn.kid {p : ProgramD} {l : List VarD} {n : Nat} (h : LetsIn p l n) (hn : n < p.nodes.length) {k : Int} (hk : k ∈ p.nodes[n].kids) : LetsIn p l k.toNat := fun m hm h13 => h m ((Reach.step (.refl n) hn hk).trans hm) h13
theorem LetsIn.own {p : ProgramD} {l : List VarD} {n : Nat} (hD : Deep p.nodes) (h : LetsIn p l n) (hn : n < p.nodes.length) : ∀ k ∈ p.nodes[n].kids, (nAt p.nodes k).kind = 13 -> 0 <= Za l (nAt p.nodes k).name := fun k hk h13 => by
 obtain ⟨q0, q1, q2⟩ := hD.kid hn k hk
 have := h.kid hn hk k.toNat (.refl _)
 rw [show ((k.toNat : Nat) : Int) = k by omega] at this
 exact this h13
set_option maxHeartbeats 4000000
set_option maxHeartbeats 8000000
theorem zpa {p : ProgramD} (h : xL p = true) : ∀ m, m < p.nodes.length -> cntK p.nodes p.nodes.length m <= 1 := fun m hm => by
 have hG := yw h
 simp only [xL, Bool.and_eq_true] at h
 obtain ⟨_, _, _, _, h4⟩ := h
 have h5 := yL.1 h4 m hm
 unfold zdC at h5
 have h6 := zel hG.deep.nodup m p.nodes.length (Nat.le_refl _)
 have h7 := hG.few
 rw [Bool.or_eq_true] at h5
 rcases h5 with h5 | h5
 · have := eq_of_beq h5; omega
 · have := eq_of_beq h5; omega
section
variable {P : Program} {f : FuncId}
def nilD (d d' : D) : Prop := d' = d \/ (d = .sc (.slice none 0 0) /\ ∃ e, d' = .row false e [])
def nilR (r r' : RV) : Prop := r.1 = r'.1 /\ r.2.length = r'.2.length /\ ∀ (j : Nat) (d d' : D), r.2[j]? = some d -> r'.2[j]? = some d' -> nilD d d'
def nilRs (rs rs' : List RV) : Prop := rs.length = rs'.length /\ ∀ (i : Nat) (r r' : RV), rs[i]? = some r -> rs'[i]? = some r' -> nilR r r'
theorem SoundAt.nilRs {ts : (Nat -> Value) -> List V} {ob0 : List (Nat × Ob)} {post post' : List RV -> St -> Prop} (hs : SoundAt P f ts ob0 post) (h : ∀ rs st, post rs st -> ∃ rs', nilRs rs rs' /\ post' rs' st) : SoundAt P f ts ob0 post' := by
 refine ⟨hs.1, fun uf ub C w gh us h1 h2 h3 h4 h5 h6 => (hs.2 uf ub C w gh us h1 h2 h3 h4 h5 h6).mono (fun e w' he => ?_)⟩
 obtain ⟨vs, rs, st', a', gh', G, rfl, hp, hres, hrep⟩ := he
 obtain ⟨rs', ⟨hn, hr⟩, hp'⟩ := h rs st' hp
 have back : ∀ (i : Nat) (r' : RV), rs'[i]? = some r' -> ∃ r, rs[i]? = some r /\ nilR r r' := fun i r' hi => by
   have hl : i < rs.length := by rw [hn]; exact (List.getElem?_eq_some_iff.1 hi).1
   exact ⟨rs[i], List.getElem?_eq_getElem hl, hr i _ _ (List.getElem?_eq_getElem hl) hi⟩
 have backd : ∀ {r r' : RV} (h : nilR r r') (j : Nat) (d' : D), r'.2[j]? = some d' -> ∃ d, r.2[j]? = some d /\ nilD d d' := fun {r r'} h j d' hj => by
   have hl : j < r.2.length := by rw [h.2.1]; exact (List.getElem?_eq_some_iff.1 hj).1
   exact ⟨r.2[j], List.getElem?_eq_getElem hl, h.2.2 j _ _ (List.getElem?_eq_getElem hl) hj⟩
 have hin : Yn rs' G = Yn rs G := by
   funext k
   apply propext
   constructor
   · rintro ⟨i, j, r', d', hi, hj, hk⟩
     obtain ⟨r, hi2, hrr⟩ := back i r' hi
     obtain ⟨d, hj2, _⟩ := backd hrr j d' hj
     exact ⟨i, j, r, d, hi2, hj2, hk⟩
   · rintro ⟨i, j, r, d, hi, hj, hk⟩
     have hl : i < rs'.length := by rw [<- hn]; exact (List.getElem?_eq_some_iff.1 hi).1
     have hrr := hr i _ _ hi (List.getElem?_eq_getElem hl)
     have hl2 : j < (rs'[i]).2.length := by rw [<- hrr.2.1]; exact (List.getElem?_eq_some_iff.1 hj).1
     exact ⟨i, j, rs'[i], (rs'[i]).2[j], List.getElem?_eq_getElem hl, List.getElem?_eq_getElem hl2, hk⟩
 refine ⟨vs, rs', st', a', gh', G, rfl, hp', ?_, by rw [hin]; exact hrep⟩
 refine ⟨by rw [<- hn]; exact hres.len, fun i r' v hi hv h1 => ?_, fun i r' v hi hv h1 => ?_, fun i r' v hi hv => ?_, hres.c1, fun i r' v j d' hi hv hj => ?_, fun i j i' j' r r' d d' k hi hj hi' hj' h1 h2 => ?_⟩
 · obtain ⟨r, hi2, hrr⟩ := back i r' hi
   exact hres.one i r v hi2 hv (by rw [hrr.1]; exact h1)
 · obtain ⟨r, hi2, hrr⟩ := back i r' hi
   exact hres.agg i r v hi2 hv (by rw [hrr.1]; exact h1)
 · obtain ⟨r, hi2, hrr⟩ := back i r' hi
   rw [hres.sz i r v hi2 hv, hrr.2.1]
 · obtain ⟨r, hi2, hrr⟩ := back i r' hi
   obtain ⟨d, hj2, hd⟩ := backd hrr j d' hj
   have how := hres.ow i r v j d hi2 hv hj2
   rcases hd with rfl | ⟨rfl, e, rfl⟩
   · exact how
   · exact how.nilr
 · obtain ⟨r0, hi2, hrr⟩ := back i r hi
   obtain ⟨d0, hj2, _⟩ := backd hrr j d hj
   obtain ⟨r1, hi3, hrr1⟩ := back i' r' hi'
   obtain ⟨d1, hj3, _⟩ := backd hrr1 j' d' hj'
   exact hres.dis i j i' j' r0 r1 d0 d1 k hi2 hj2 hi3 hj3 h1 h2
end
theorem zmh (d : D) : nilD d d := Or.inl rfl
theorem zhG (r : RV) : nilR r r := ⟨rfl, rfl, fun j d d' h1 h2 => by rw [h1] at h2; cases h2; exact zmh _⟩
theorem zlj (b : Bool) : nilRs [(true, [.sc (.slice none 0 0), .sc (.slice none 0 0)]), (false, [cB b])] [(true, za false ⟨[], []⟩), (false, [cB b])] := by
 refine ⟨rfl, fun i r r' h1 h2 => ?_⟩
 match i with
 | 0 =>
   simp only [List.getElem?_cons_zero, Option.some.injEq] at h1 h2
   subst h1 h2
   refine ⟨rfl, rfl, fun j d d' g1 g2 => ?_⟩
   match j with
   | 0 => simp [za] at g1 g2; subst g1 g2; exact Or.inr ⟨rfl, 83, rfl⟩
   | 1 => simp [za] at g1 g2; subst g1 g2; exact Or.inr ⟨rfl, 104, rfl⟩
   | j + 2 => simp at g1
 | 1 =>
   simp only [List.getElem?_cons_succ, List.getElem?_cons_zero, Option.some.injEq] at h1 h2
   subst h1 h2
   exact zhG _
 | i + 2 => simp at h1
theorem zbF {P : Program} {fid : FuncId} {gs : List Arg} {g : Bool} {x : ProgramD} (h : zw P fid gs (fun rs st => rs = if g then [(true, za false x), (false, [cB true])] else [(true, [.sc (.slice none 0 0), .sc (.slice none 0 0)]), (false, [cB false])])) :
   zw P fid gs (fun rs st => rs = [(true, za false (if g then x else ⟨[], []⟩)), (false, [cB g])]) := by
 refine SoundAt.nilRs h (fun rs st hr => ⟨_, ?_, rfl⟩)
 rw [hr]
 cases g with
 | true =>
   simp only [if_true]
   exact ⟨rfl, fun i r r' h1 h2 => by rw [h1] at h2; cases h2; exact zhG _⟩
 | false =>
   simp only [Bool.false_eq_true, if_false]
   exact zlj false
theorem zfm {l : List FnD} {i : Nat} (h : i < l.length) : l.drop i = l[i] :: l.drop (i + 1) := List.drop_eq_getElem_cons h
theorem zcL (l : List FnD) (x : FnD) : rows (fnC false) l ++ [[D.sc (.string x.name), .row false 107 (rows (zq false) x.params), .sc (.int .i64 x.res), .sc (.int .i64 x.body), .sc (.int .i64 x.ret)]] = rows (fnC false) (l ++ [x]) := Xw (fnC false) l x
theorem zkJ (p : ProgramD) : (YU p).2.to.length <= 300 := by
 have key : ∀ (l : List FnD) (s : PkS), s.to.length <= 300 -> (xZ (pkI p.nodes 10) l s).2.to.length <= 300 := by
   intro l
   induction l with
   | nil => intro s hs; exact hs
   | cons f r ih =>
     intro s hs
     unfold xZ
     refine ih _ ?_
     unfold pkFn
     have h1 := XT p.nodes 10 f.body s hs
     split
     · exact XT p.nodes 10 f.ret _ h1
     · exact h1
 exact key p.fns pk0 (by simp [pk0])
theorem zfM (p : ProgramD) (hf : p.fns.length <= 1048576) (hn : p.nodes.length <= 1048576) (hk : ∀ x ∈ p.nodes, x.kids.length <= 1048576) (hpl : ∀ f ∈ p.fns, f.params.length <= 1048576) :
   zw Tryz.prog 150 [.ro (zb p)] (fun rs st => rs = [(true, za false (Yh p)), (false, [cB (zah p)])]) := by
 unfold Yh
 refine zbF ?_
 have hput := zkA p.nodes hn hk 10 (by omega)
 unfold PutI at hput
 have hmost := fun k s h => XT p.nodes 10 k s h
 have hB : zah p = !(YU p).2.bad := rfl
 obtain ⟨R, hR⟩ : ∃ R, YU p = R := ⟨_, rfl⟩
 rw [hB, hR]
 unfold YU at hR
 generalize hV : pkI p.nodes 10 = V at hput hmost hR
 have e11 : (11 - ((10 : Nat) : Int)) = 1 := by omega
 simp only [e11] at hput
 refine zn (fn := Tryz.f150) (c := Tryz.f150.body.getD .skip) (res := [.ce 2 36, .tm 3]) (n := 45) zf (by kernel_rfl) (by rfl) (by kernel_rfl) (by rfl) (by rfl) (by simp [zu]) (fun uf ub C hpin hpin2 hfull => ?_)
 simp only [Tryz.f150, Option.getD_some]
 refine Tri.step zf ?_
 simp +decide only [zb, za, pkC, hpin, go_sem, reduceAdd, reduceMul]
 refine Tri.ent ?_ (Ent.frb hfull 1)
 refine Tri.step zf ?_
 simp +decide only [zb, za, pkC, hpin, go_sem, reduceAdd, reduceMul]
 refine Tri.ent ?_ (Ent.nilr 4 1 83)
 refine Tri.step zf ?_
 simp +decide only [zb, za, pkC, hpin, go_sem, reduceAdd, reduceMul]
 refine Tri.ent ?_ (Ent.nilr 5 1 104)
 refine Tri.step zf ?_
 simp +decide only [zb, za, pkC, hpin, go_sem, reduceAdd, reduceMul]
 refine Tri.loop (ι := Nat × List FnD × PkS) (fun q => q.1 <= p.fns.length /\ q.2.1.length = q.1 /\ q.2.2.to.length <= 300 /\ R = (q.2.1 ++ (xZ V (p.fns.drop q.1) q.2.2).1, (xZ V (p.fns.drop q.1) q.2.2).2))
   (fun q => ⟨45, [(2, .bp 2 0), (4, .bp 4 0), (5, .bp 5 0), (12, .imm 104 (rows (fnC true) p.fns)), (13, vI p.fns.length), (14, vI q.1)], [(2, .box [.sc (.slice none 0 0), .sc (.slice none 0 0)]), (4, .box (pkC p.nodes q.2.2.to q.2.2.bad)), (5, .box [.sc (.slice none 0 0), .row false 104 (rows (fnC false) q.2.1)])]⟩) (fun q => p.fns.length - q.1) (0, [], pk0) ⟨by simp, rfl, by simp [pk0], by simp [<- hR]⟩ ?_ ?_
 · refine Ent.weak ?_ ?_ ?_ ?_ <;> simp +decide [zQ, St.nilr, St.swap, subT, subB, zl, zk, zm, St.get, look, vI, vB, vS, cI, cS, cB, zg, za, pkC, roI, rows, pk0]
 · rintro ⟨i, acc, t⟩ ⟨hi, hal, htl, hRe⟩
   simp only at hi hal htl hRe |-
   refine ze zf _ ?_
   by_cases h' : i < p.fns.length
   · have e : ((i : Int) < (p.fns.length : Int)) = True := by simp [h']
     have hx : (rows (fnC true) p.fns).getD i [] = fnC true p.fns[i] := zi _ _ h'
     have hkx := hpl p.fns[i] (List.getElem_mem h')
     rw [zfm h'] at hRe
     unfold xZ at hRe
     generalize p.fns[i] = f at hx hkx hRe
     have hcf := zcq f hkx
     simp only [fnW] at hcf
     have hc1 := hput f.body t htl
     have ht1 := hmost f.body t htl
     unfold pkFn at hRe
     generalize V f.body t = r1 at hRe hc1 ht1
     obtain ⟨b1, t1⟩ := r1
     simp only at hRe hc1 ht1
     have hc2 := hput f.ret t1 ht1
     have ht2 := hmost f.ret t1 ht1
     generalize V f.ret t1 = r2 at hRe hc2 ht2
     obtain ⟨b2, t2⟩ := r2
     simp only at hRe hc2 ht2
     simp only [pkC, cI] at hc1 hc2
     have hb1 : i + 1 <= 140737488355328 := by omega
     have hb2 : (i + 1) * 64 <= 140737488355328 := by omega
     simp +decide only [e, h', hx, fnC, Int.natCast_nonneg, vB, vI, zb, za, pkC, hpin, go_sem, reduceAdd, reduceMul]
     refine zd hcf hpin ?_
     simp +decide only [fnC, zb, za, pkC, hpin, go_sem, reduceAdd, reduceMul]
     refine yu hc1 hpin hfull [(2000, 4)] [] [(2000, 4)] ⟨rfl, rfl, rfl, rfl⟩ (fun uf => ?_) ?_
     · simp +decide only [zb, za, pkC, hpin, go_sem, reduceAdd, reduceMul]
     simp +decide only [fnC, zb, za, pkC, hpin, go_sem, reduceAdd, reduceMul]
     by_cases h0 : 0 <= f.ret
     · have c0 : (0 <= f.ret) = True := eq_true h0
       rw [if_pos (by simpa using h0)] at hRe
       have hsn := zcL acc ⟨f.name, f.params, f.res, b1, b2⟩
       have hal2 : (acc ++ [(⟨f.name, f.params, f.res, b1, b2⟩ : FnD)]).length = i + 1 := by simp [hal]
       simp +decide only [c0, ge_iff_le, fnC, zb, za, pkC, hpin, go_sem, reduceAdd, reduceMul]
       refine yu hc2 hpin hfull [(2000, 4)] [] [(2000, 4)] ⟨rfl, rfl, rfl, rfl⟩ (fun uf => ?_) ?_
       · simp +decide only [zb, za, pkC, hpin, go_sem, reduceAdd, reduceMul]
       simp +decide only [hal, hal2, hb1, hb2, hsn, fnC, zb, za, pkC, hpin, go_sem, reduceAdd, reduceMul]
       refine ⟨(i + 1, acc ++ [⟨f.name, f.params, f.res, b1, b2⟩], t2), ⟨h', by simp [hal], ht2, by rw [hRe]; simp⟩, by show p.fns.length - (i + 1) < p.fns.length - i; omega, Ent.weak ?_ ?_ ?_ ?_⟩
       all_goals simp +decide [zQ, St.nilr, St.swap, subT, subB, zl, zk, zm, St.get, look, vI, vB, vS, cI, cS, cB, zg, za, pkC, roI, hsn, w64s (n := p.fns.length) h' (by omega)]
     · have c0 : (0 <= f.ret) = False := eq_false h0
       rw [if_neg (by simpa using h0)] at hRe
       have hsn := zcL acc ⟨f.name, f.params, f.res, b1, f.ret⟩
       have hal2 : (acc ++ [(⟨f.name, f.params, f.res, b1, f.ret⟩ : FnD)]).length = i + 1 := by simp [hal]
       simp +decide only [c0, ge_iff_le, hal, hal2, hb1, hb2, hsn, fnC, zb, za, pkC, hpin, go_sem, reduceAdd, reduceMul]
       refine ⟨(i + 1, acc ++ [⟨f.name, f.params, f.res, b1, f.ret⟩], t1), ⟨h', by simp [hal], ht1, by rw [hRe]; simp⟩, by show p.fns.length - (i + 1) < p.fns.length - i; omega, Ent.weak ?_ ?_ ?_ ?_⟩
       all_goals simp +decide [zQ, St.nilr, St.swap, subT, subB, zl, zk, zm, St.get, look, vI, vB, vS, cI, cS, cB, zg, za, pkC, roI, hsn, w64s (n := p.fns.length) h' (by omega)]
   · have hil : i = p.fns.length := by omega
     subst hil
     have e : ((p.fns.length : Int) < (p.fns.length : Int)) = False := by simp
     rw [List.drop_length] at hRe
     simp only [xZ, List.append_nil] at hRe
     subst hRe
     obtain ⟨tt, tb⟩ := t
     simp +decide only [e, vB, vI, zb, za, pkC, hpin, go_sem, reduceAdd, reduceMul]
     refine Tri.step zf ?_
     cases tb with
     | true =>
       simp +decide only [zb, za, pkC, hpin, go_sem, reduceAdd, reduceMul]
     | false =>
       simp +decide only [zb, za, pkC, hpin, go_sem, reduceAdd, reduceMul]
       refine ze zf _ ?_
       simp +decide only [zb, za, pkC, hpin, go_sem, reduceAdd, reduceMul]
theorem zfL (p : ProgramD) (hf : p.fns.length <= 1048576) (hn : p.nodes.length <= 1048576) (hk : ∀ x ∈ p.nodes, x.kids.length <= 1048576) (hpl : ∀ f ∈ p.fns, f.params.length <= 1048576) :
   zw Tryz.prog 139 [.ro (zb p)] (fun rs st => rs = [(true, za false (Yh p)), (false, [cB (zah p)])]) := by
 unfold Yh
 refine zbF ?_
 have hput := zkz p.nodes hn hk 10 (by omega)
 unfold PutR at hput
 have hmost := fun k s h => zlX p.nodes 10 k s 320 (by omega) h
 obtain ⟨ha1, ha2⟩ := zkH p
 obtain ⟨R, hR⟩ : ∃ R, zkI p = R := ⟨_, rfl⟩
 rw [hR] at ha1 ha2
 unfold zkI at hR
 generalize hV : pkR p.nodes 10 = V at hput hmost hR
 have e11 : (11 - ((10 : Nat) : Int)) = 1 := by omega
 simp only [e11] at hput
 refine zn (fn := Tryz.f139) (c := Tryz.f139.body.getD .skip) (res := [.ce 2 36, .tm 3]) (n := 68) zf (by kernel_rfl) (by rfl) (by kernel_rfl) (by rfl) (by rfl) (by simp [zu]) (fun uf ub C hpin hpin2 hfull => ?_)
 simp only [Tryz.f139, Option.getD_some]
 refine Tri.step zf ?_
 simp +decide only [zb, za, pkC, hpin, go_sem, reduceAdd, reduceMul]
 refine Tri.ent ?_ (Ent.frb hfull 1)
 refine Tri.step zf ?_
 simp +decide only [zb, za, pkC, hpin, go_sem, reduceAdd, reduceMul]
 refine Tri.ent ?_ (Ent.nilr 11 1 83)
 refine Tri.step zf ?_
 simp +decide only [zb, za, pkC, hpin, go_sem, reduceAdd, reduceMul]
 refine Tri.ent ?_ (Ent.nilr 5 1 104)
 refine Tri.step zf ?_
 simp +decide only [zb, za, pkC, hpin, go_sem, reduceAdd, reduceMul]
 refine Tri.loop (ι := Nat × List FnD × PkS) (fun q => q.1 <= p.fns.length /\ q.2.1.length = q.1 /\ q.2.2.to.length <= 320 /\ R = (q.2.1 ++ (xZ V (p.fns.drop q.1) q.2.2).1, (xZ V (p.fns.drop q.1) q.2.2).2))
   (fun q => ⟨68, [(1, .ip (za true p) 0), (2, .bp 2 0), (4, .bp 11 0), (5, .bp 5 0), (6, vI q.1)], [(2, .box [.sc (.slice none 0 0), .sc (.slice none 0 0)]), (11, .box (pkC p.nodes q.2.2.to q.2.2.bad)), (5, .box [.sc (.slice none 0 0), .row false 104 (rows (fnC false) q.2.1)])]⟩) (fun q => p.fns.length - q.1) (0, [], pk0) ⟨by simp, rfl, by simp [pk0], by simp [<- hR]⟩ ?_ ?_
 · refine Ent.weak ?_ ?_ ?_ ?_ <;> simp +decide [zQ, St.nilr, St.swap, subT, subB, zl, zk, zm, St.get, look, vI, vB, vS, cI, cS, cB, zg, za, pkC, roI, rows, pk0]
 · rintro ⟨i, acc, t⟩ ⟨hi, hal, htl, hRe⟩
   simp only at hi hal htl hRe |-
   refine ze zf _ ?_
   by_cases h' : i < p.fns.length
   · have e : ((i : Int) < (p.fns.length : Int)) = True := by simp [h']
     have hx : (rows (fnC true) p.fns).getD i [] = fnC true p.fns[i] := zi _ _ h'
     have hkx := hpl p.fns[i] (List.getElem_mem h')
     rw [zfm h'] at hRe
     unfold xZ at hRe
     generalize p.fns[i] = f at hx hkx hRe
     have hfr := zaA f.params
     have htf := zds f.params
     have hb3 : f.params.length <= 140737488355328 := by omega
     have hb4 : f.params.length * 24 <= 140737488355328 := by omega
     have hc1 := hput f.body t (by omega)
     have ht1 := hmost f.body t htl
     unfold pkFn at hRe
     generalize V f.body t = r1 at hRe hc1 ht1
     obtain ⟨b1, t1⟩ := r1
     simp only at hRe hc1 ht1
     have hc2 := hput f.ret t1 (by omega)
     have ht2 := hmost f.ret t1 ht1
     generalize V f.ret t1 = r2 at hRe hc2 ht2
     obtain ⟨b2, t2⟩ := r2
     simp only at hRe hc2 ht2
     simp only [pkC, cI] at hc1 hc2
     have hb1 : i + 1 <= 140737488355328 := by omega
     have hb2 : (i + 1) * 64 <= 140737488355328 := by omega
     simp +decide only [e, h', hx, hfr, hb3, hb4, fnC, Int.natCast_nonneg, vB, vI, zb, za, pkC, hpin, go_sem, reduceAdd, reduceMul]
     refine yu hc1 hpin hfull [(2000, 11)] [] [(2000, 11)] ⟨rfl, rfl, rfl, rfl⟩ (fun uf => ?_) ?_
     · simp +decide only [zb, za, pkC, hpin, go_sem, reduceAdd, reduceMul]
     simp +decide only [fnC, zb, za, pkC, hpin, go_sem, reduceAdd, reduceMul]
     by_cases h0 : 0 <= f.ret
     · have c0 : (0 <= f.ret) = True := eq_true h0
       rw [if_pos (by simpa using h0)] at hRe
       have hsn := zcL acc ⟨f.name, f.params, f.res, b1, b2⟩
       simp only [<- htf] at hsn
       have hal2 : (acc ++ [(⟨f.name, f.params, f.res, b1, b2⟩ : FnD)]).length = i + 1 := by simp [hal]
       simp +decide only [c0, ge_iff_le, fnC, zb, za, pkC, hpin, go_sem, reduceAdd, reduceMul]
       refine yu hc2 hpin hfull [(2000, 11)] [] [(2000, 11)] ⟨rfl, rfl, rfl, rfl⟩ (fun uf => ?_) ?_
       · simp +decide only [zb, za, pkC, hpin, go_sem, reduceAdd, reduceMul]
       simp +decide only [hal, hal2, hb1, hb2, hsn, fnC, zb, za, pkC, hpin, go_sem, reduceAdd, reduceMul]
       refine ⟨(i + 1, acc ++ [⟨f.name, f.params, f.res, b1, b2⟩], t2), ⟨h', by simp [hal], ht2, by rw [hRe]; simp⟩, by show p.fns.length - (i + 1) < p.fns.length - i; omega, Ent.weak ?_ ?_ ?_ ?_⟩
       all_goals simp +decide [zQ, St.nilr, St.swap, subT, subB, zl, zk, zm, St.get, look, vI, vB, vS, cI, cS, cB, zg, za, pkC, roI, hsn, w64s (n := p.fns.length) h' (by omega)]
     · have c0 : (0 <= f.ret) = False := eq_false h0
       rw [if_neg (by simpa using h0)] at hRe
       have hsn := zcL acc ⟨f.name, f.params, f.res, b1, f.ret⟩
       simp only [<- htf] at hsn
       have hal2 : (acc ++ [(⟨f.name, f.params, f.res, b1, f.ret⟩ : FnD)]).length = i + 1 := by simp [hal]
       simp +decide only [c0, ge_iff_le, hal, hal2, hb1, hb2, hsn, fnC, zb, za, pkC, hpin, go_sem, reduceAdd, reduceMul]
       refine ⟨(i + 1, acc ++ [⟨f.name, f.params, f.res, b1, f.ret⟩], t1), ⟨h', by simp [hal], ht1, by rw [hRe]; simp⟩, by show p.fns.length - (i + 1) < p.fns.length - i; omega, Ent.weak ?_ ?_ ?_ ?_⟩
       all_goals simp +decide [zQ, St.nilr, St.swap, subT, subB, zl, zk, zm, St.get, look, vI, vB, vS, cI, cS, cB, zg, za, pkC, roI, hsn, w64s (n := p.fns.length) h' (by omega)]
   · have hil : i = p.fns.length := by omega
     subst hil
     have e : ((p.fns.length : Int) < (p.fns.length : Int)) = False := by simp
     rw [List.drop_length] at hRe
     simp only [xZ, List.append_nil] at hRe
     subst hRe
     obtain ⟨tt, tb⟩ := t
     simp only at ha1 ha2
     simp +decide only [e, vB, vI, zb, za, pkC, hpin, go_sem, reduceAdd, reduceMul]
     refine Tri.step zf ?_
     cases tb with
     | true =>
       have hB : zah p = false := by rw [<- ha1]; simp
       simp +decide only [hB, zb, za, pkC, hpin, go_sem, reduceAdd, reduceMul]
     | false =>
       by_cases g : 300 < tt.length
       · have g1 : ((300 : Int) < (tt.length : Int)) = True := eq_true (by omega)
         have hB : zah p = false := by rw [<- ha1]; simp [g]
         simp +decide only [g1, gt_iff_lt, hB, zb, za, pkC, hpin, go_sem, reduceAdd, reduceMul]
       · have g1 : ((300 : Int) < (tt.length : Int)) = False := eq_false (by omega)
         have hB : zah p = true := by rw [<- ha1]; simp; omega
         have hq := ha2 hB
         have q1 : (YU p).2.to = tt := by rw [<- hq]
         have q2 : (YU p).1 = acc := by rw [<- hq]
         simp +decide only [g1, gt_iff_lt, hB, q1, q2, zb, za, pkC, hpin, go_sem, reduceAdd, reduceMul]
         refine ze zf _ ?_
         simp +decide only [zb, za, pkC, hpin, go_sem, reduceAdd, reduceMul]
noncomputable def zbv (q : ProgramD) : Bool := zah q && ya (Yh q)
noncomputable def zaL (q : ProgramD) : Int := if zbv q then 0 else 1
noncomputable def finP (p q : ProgramD) : ProgramD := if zbv q then Yh q else p
theorem zdy (q : ProgramD) (hf : q.fns.length <= 1048576) (hk : ∀ x ∈ q.nodes, x.kids.length <= 1048576) (hpl : ∀ f ∈ q.fns, f.params.length <= 1048576) : (Yh q).nodes.length <= 300 /\ (Yh q).fns.length <= 1048576 /\ (∀ x ∈ (Yh q).nodes, x.kids.length <= 1048576) /\ (∀ f ∈ (Yh q).fns, f.params.length <= 1048576) := by
 unfold Yh
 split
 case isFalse => exact ⟨by simp, by simp, fun x hx => by simp at hx, fun x hx => by simp at hx⟩
 have hto : ∀ (d : Nat) (k : Int) (s : PkS), (∀ x ∈ s.to, x.kids.length <= 1048576) -> ∀ x ∈ (pkI q.nodes d k s).2.to, x.kids.length <= 1048576 := by
   intro d
   induction d with
   | zero => intro k s hs x hx; exact hs x hx
   | succ d ih =>
     intro k s hs
     have hr : ∀ (l : List Int) (s : PkS), (∀ x ∈ s.to, x.kids.length <= 1048576) -> ∀ x ∈ (runB (pkI q.nodes d) l s).2.to, x.kids.length <= 1048576 := by
       intro l
       induction l with
       | nil => intro s hs x hx; exact hs x hx
       | cons k r ihr =>
         intro s hs
         unfold runB
         split
         · exact hs
         · exact ihr _ (ih k s hs)
     have h1 := hr (nAt q.nodes k).kids s hs
     have h2 := zdf (pkI q.nodes d) (nAt q.nodes k).kids s
     have h3 : (nAt q.nodes k).kids.length <= 1048576 := by
       unfold nAt
       rw [List.getD_eq_getElem?_getD]
       cases hq : q.nodes[k.toNat]? with
       | none => simp [nd0]
       | some y => exact hk y (List.mem_of_getElem? hq)
     unfold pkI
     split
     · exact hs
     split
     · exact h1
     split
     · exact h1
     · intro x hx
       unfold zay at hx
       simp only [List.mem_append, List.mem_singleton] at hx
       rcases hx with hx | rfl
       · exact h1 x hx
       · show (runB (pkI q.nodes d) (nAt q.nodes k).kids s).1.length <= _; omega
 have hfs : ∀ (l : List FnD) (s : PkS), (∀ x ∈ s.to, x.kids.length <= 1048576) -> (∀ f ∈ l, f.params.length <= 1048576) -> (xZ (pkI q.nodes 10) l s).1.length = l.length /\ (∀ x ∈ (xZ (pkI q.nodes 10) l s).2.to, x.kids.length <= 1048576) /\ ∀ f ∈ (xZ (pkI q.nodes 10) l s).1, f.params.length <= 1048576 := by
   intro l
   induction l with
   | nil => intro s hs hl; exact ⟨rfl, hs, fun f hf => by simp [xZ] at hf⟩
   | cons f r ih =>
     intro s hs hl
     have h1 : ∀ x ∈ (pkFn (pkI q.nodes 10) f s).2.to, x.kids.length <= 1048576 := by
       unfold pkFn
       split
       · exact hto 10 _ _ (hto 10 _ _ hs)
       · exact hto 10 _ _ hs
     have h2 : (pkFn (pkI q.nodes 10) f s).1.params = f.params := by unfold pkFn; split <;> rfl
     obtain ⟨g1, g2, g3⟩ := ih _ h1 (fun x hx => hl x (List.mem_cons_of_mem _ hx))
     unfold xZ
     refine ⟨by simp [g1], g2, fun x hx => ?_⟩
     rcases List.mem_cons.1 hx with rfl | hx
     · rw [h2]; exact hl f (List.mem_cons_self ..)
     · exact g3 x hx
 obtain ⟨g1, g2, g3⟩ := hfs q.fns pk0 (fun x hx => by simp [pk0] at hx) hpl
 refine ⟨zkJ q, ?_, g2, g3⟩
 show (YU q).1.length <= _
 unfold YU
 omega
theorem zeJ (p q : ProgramD) (hf : p.fns.length <= 1048576) (hn : p.nodes.length <= 1048576) (hk : ∀ x ∈ p.nodes, x.kids.length <= 1048576) (hpl : ∀ f ∈ p.fns, f.params.length <= 1048576) (hf2 : q.fns.length <= 1048576) (hn2 : q.nodes.length <= 1048576) (hk2 : ∀ x ∈ q.nodes, x.kids.length <= 1048576) (hpl2 : ∀ f ∈ q.fns, f.params.length <= 1048576) :
   zw Tryz.prog 73 [.ro (zb p), .ro (zb q)] (fun rs st => rs = [(true, za false (finP p q)), (false, [cI (zaL q)])]) := by
 have hpk := zfM q hf2 hn2 hk2 hpl2
 obtain ⟨g1, g2, g3, g4⟩ := zdy q hf2 hk2 hpl2
 have htr := Yu (Yh q) g2 (by omega) g3 g4
 have hcp := YH p hf hn hk hpl
 unfold finP zaL zbv
 generalize Yh q = Q at hpk htr |-
 simp only [zb, za] at hpk htr hcp
 refine zn (fn := Tryz.f73) (c := Tryz.f73.body.getD .skip) (res := [.ce 4 36, .tm 5]) (n := 23) zf (by kernel_rfl) (by rfl) (by kernel_rfl) (by rfl) (by rfl) (by simp [zu]) (fun uf ub C hpin hpin2 hfull => ?_)
 simp only [Tryz.f73, Option.getD_some]
 refine Tri.step zf ?_
 simp +decide only [zb, za, pkC, hpin, go_sem, reduceAdd, reduceMul]
 refine Tri.ent ?_ (Ent.frb hfull 2)
 refine Tri.ent ?_ (Ent.frb hfull 3)
 refine Tri.step zf ?_
 simp +decide only [zb, za, pkC, hpin, go_sem, reduceAdd, reduceMul]
 refine zd hpk hpin ?_
 simp +decide only [zb, za, pkC, hpin, go_sem, reduceAdd, reduceMul]
 refine Tri.step zf ?_
 cases hB : zah q with
 | false =>
   simp +decide only [zb, za, pkC, hpin, go_sem, reduceAdd, reduceMul]
   refine zd hcp hpin ?_
   simp +decide only [zb, za, pkC, hpin, go_sem, reduceAdd, reduceMul]
 | true =>
   simp +decide only [zb, za, pkC, hpin, go_sem, reduceAdd, reduceMul]
   refine zd htr hpin ?_
   cases hT : ya Q with
   | false =>
     simp +decide only [zb, za, pkC, hpin, go_sem, reduceAdd, reduceMul]
     refine zd hcp hpin ?_
     simp +decide only [zb, za, pkC, hpin, go_sem, reduceAdd, reduceMul]
   | true =>
     simp +decide only [zb, za, pkC, hpin, go_sem, reduceAdd, reduceMul]
     refine ze zf _ ?_
     simp +decide only [zb, za, pkC, hpin, go_sem, reduceAdd, reduceMul]
theorem zdO (q : ProgramD) (hf2 : q.fns.length <= 1048576) (hn2 : q.nodes.length <= 1048576) (hk2 : ∀ x ∈ q.nodes, x.kids.length <= 1048576) (hpl2 : ∀ f ∈ q.fns, f.params.length <= 1048576) :
   zw Tryz.prog 61 [.ro (zb q)] (fun rs st => rs = [(true, za false (if zbv q then Yh q else ⟨[], []⟩)), (false, [cB (zbv q)])]) := by
 refine zbF ?_
 have hpk := zfL q hf2 hn2 hk2 hpl2
 obtain ⟨g1, g2, g3, g4⟩ := zdy q hf2 hk2 hpl2
 have htr := Yt (Yh q) g2 (by omega) g3 g4
 unfold zbv
 generalize Yh q = Q at hpk htr |-
 simp only [zb, za] at hpk htr
 refine zn (fn := Tryz.f61) (c := Tryz.f61.body.getD .skip) (res := [.ce 2 36, .tm 3]) (n := 20) zf (by kernel_rfl) (by rfl) (by kernel_rfl) (by rfl) (by rfl) (by simp [zu]) (fun uf ub C hpin hpin2 hfull => ?_)
 simp only [Tryz.f61, Option.getD_some]
 refine Tri.step zf ?_
 simp +decide only [zb, za, pkC, hpin, go_sem, reduceAdd, reduceMul]
 refine Tri.ent ?_ (Ent.frb hfull 1)
 refine Tri.step zf ?_
 simp +decide only [zb, za, pkC, hpin, go_sem, reduceAdd, reduceMul]
 refine zd hpk hpin ?_
 simp +decide only [zb, za, pkC, hpin, go_sem, reduceAdd, reduceMul]
 refine Tri.step zf ?_
 cases hB : zah q with
 | false =>
   simp +decide only [zb, za, pkC, hpin, go_sem, reduceAdd, reduceMul]
 | true =>
   simp +decide only [zb, za, pkC, hpin, go_sem, reduceAdd, reduceMul]
   refine zd htr hpin ?_
   cases hT : ya Q with
   | false => simp +decide only [zb, za, pkC, hpin, go_sem, reduceAdd, reduceMul]
   | true =>
     simp +decide only [zb, za, pkC, hpin, go_sem, reduceAdd, reduceMul]
     refine ze zf _ ?_
     simp +decide only [zb, za, pkC, hpin, go_sem, reduceAdd, reduceMul]
def isSl : Value -> Prop
 | .slice _ _ _ => True
 | _ => False
def zmu : Value -> Prop
 | .int _ _ => True
 | _ => False
def zmv : Option D -> Prop
 | some (.sc (.int _ _)) => True
 | _ => False
def zgy (P : Program) (st : St) (t : TypeId) (pv vv : V) (K : St -> Prop) : Prop := match pv, vv with
 | .rp o p i j, .sc c => match look st.ob o with
   | some x => match subO x p with
     | some (.row false e es) => i < es.length /\ j + 1 <= szT P e /\ szT P t = 1 /\ zmv (cellAt es i j) /\ zmu c /\ ev (b := ⟨K⟩) { st with ob := (o, setO x p (.row false e (zO es i j (.sc c)))) :: drop st.ob o }
     | _ => False
   | none => False
 | _, _ => False
def zik (P : Program) (C : Cx) (ops : Array Oper) : List Oper -> St -> (St -> Prop) -> Prop
 | [], st, K => K st
 | o :: r, st, K => match o.op, o.dst, o.guard with
   | .store t x y, none, none => (st.ev x).ok /\ (st.ev y).ok /\ zgy P st t (st.ev x).str (st.ev y).str (fun st' => zik P C ops r st' K)
   | _, _, _ => Zj st o /\ zil P C ops st o (fun st' => zik P C ops r st' K)
section
variable {P : Program} {w w1 : World} {C : Cx} {X : Nat -> Prop} {gh gh' : Gh} {st st' : St} {a : Act} {v : V} {u : Value} {ob ob' : List (Nat × Ob)} {S : Nat -> Prop} {K : St -> Prop}
theorem Nav.head {d : D} {y : Value} {p : List (Nat × Nat)} {d2 : D} {v2 : Value} (h : Nav P w d y p d2 v2) (hs : isSl v2) : isSl y := by
 cases h with
 | nil => exact hs
 | cons hc hw hn => trivial
theorem Nav.moveS (Hw : ∀ b y, w.cell? b = some y -> isSl y -> w1.cell? b = some y) {d : D} {y : Value} {p : List (Nat × Nat)} {d2 : D} {v2 : Value} (h : Nav P w d y p d2 v2) (hs : isSl v2) : Nav P w1 d y p d2 v2 := by
 induction h with
 | nil => exact .nil
 | cons hc hw hn ih => exact .cons hc (Hw _ _ hw (hn.head hs)) (ih hs)
theorem Nav.keep (Hw : ∀ b y, w.cell? b = some y -> isSl y -> w1.cell? b = some y) {d : D} {y : Value} {p : List (Nat × Nat)} {d2 : D} {v2 : Value} (h : Nav P w d y p d2 v2) (hs : isSl v2) :
   ∀ {q : List (Nat × Nat)} {e : TypeId} {es : List (List D)} {i j : Nat} {c0 c : Value}, subD d q = some (.row false e es) -> cellAt es i j = some (.sc c0) -> ∀ {e' : TypeId} {es' : List (List D)}, d2 = .row false e' es' ->
     ∃ es'', Nav P w1 (setD d q (.row false e (zO es i j (.sc c)))) y p (.row false e' es'') v2 /\ es''.length = es'.length := by
 induction h with
 | @nil d y =>
   intro q e es i j c0 c hq hc e' es' hd
   subst hd
   cases q with
   | nil =>
     simp only [subD, Option.some.injEq, D.row.injEq, true_and] at hq
     obtain ⟨rfl, rfl⟩ := hq
     exact ⟨_, .nil, by simp⟩
   | cons ij q => exact ⟨_, .nil, by simp⟩
 | @cons e0 es0 ad l c1 i1 j1 d1 d2 v1 v2 p hc0 hw hn ih =>
   intro q e es i j c0 c hq hc e' es' hd
   have hw1 := Hw _ _ hw (hn.head hs)
   cases q with
   | nil =>
     simp only [subD, Option.some.injEq, D.row.injEq, true_and] at hq
     obtain ⟨rfl, rfl⟩ := hq
     simp only [setD]
     by_cases he : i = i1 /\ j = j1
     · obtain ⟨rfl, rfl⟩ := he
       rw [hc] at hc0
       cases hc0
       subst hd
       cases hn
     · refine ⟨es', .cons (by rw [yc hc, if_neg he]; exact hc0) hw1 ?_, rfl⟩
       subst hd
       exact hn.moveS Hw hs
   | cons ij q =>
     obtain ⟨a1, b1⟩ := ij
     simp only [subD, Option.bind_eq_some_iff] at hq
     obtain ⟨dq, hdq, hq⟩ := hq
     simp only [setD]
     by_cases he : a1 = i1 /\ b1 = j1
     · obtain ⟨rfl, rfl⟩ := he
       rw [hdq] at hc0
       cases hc0
       obtain ⟨es'', g1, g2⟩ := ih hs (c := c) hq hc hd
       refine ⟨es'', .cons (by rw [yc hdq, if_pos ⟨rfl, rfl⟩, hdq]) hw1 ?_, g2⟩
       exact g1
     · refine ⟨es', .cons (by rw [yc hdq, if_neg he]; exact hc0) hw1 ?_, rfl⟩
       subst hd
       exact hn.moveS Hw hs
theorem NavO.keep (Hw : ∀ b y, w.cell? b = some y -> isSl y -> w1.cell? b = some y) {o : Nat} {x : Ob} {p : List (Nat × Nat)} {e' : TypeId} {es' : List (List D)} {v2 : Value} (h : NavO P w gh o x p (.row false e' es') v2) (hs : isSl v2) {q : List (Nat × Nat)} {e : TypeId} {es : List (List D)} {i j : Nat} {c0 c : Value} (hq : subO x q = some (.row false e es)) (hc : cellAt es i j = some (.sc c0)) :
   ∃ es'', NavO P w1 gh o (setO x q (.row false e (zO es i j (.sc c)))) p (.row false e' es'') v2 /\ es''.length = es'.length := by
 cases x with
 | row e0 es0 =>
   simp only [NavO] at h
   obtain ⟨es'', g1, g2⟩ := h.keep Hw hs (c := c) (show subD (.row false e0 es0) q = _ from hq) hc rfl
   refine ⟨es'', ?_, g2⟩
   cases q with
   | nil =>
     simp only [subO, subD, Option.some.injEq, D.row.injEq, true_and] at hq
     obtain ⟨rfl, rfl⟩ := hq
     exact g1
   | cons ij q => exact g1
 | box cs =>
   cases p with
   | nil => exact h.elim
   | cons a1 p =>
     obtain ⟨ai, aj⟩ := a1
     obtain ⟨d1, v1, h1, h2, h3⟩ := h
     cases q with
     | nil => simp [subO] at hq
     | cons b1 q =>
       obtain ⟨bi, bj⟩ := b1
       simp only [subO, Option.bind_eq_some_iff] at hq
       obtain ⟨dq, hdq, hq⟩ := hq
       have hw1 := Hw _ _ h2 (h3.head hs)
       have hbl := (List.getElem?_eq_some_iff.1 hdq).1
       have e0 : cs.getD bj .dead = dq := by simp [List.getD, hdq]
       simp only [setO, e0]
       by_cases he : bj = aj
       · subst he
         rw [hdq] at h1
         cases h1
         obtain ⟨es'', g1, g2⟩ := h3.keep Hw hs (c := c) hq hc rfl
         exact ⟨es'', ⟨_, v1, List.getElem?_set_self hbl, hw1, g1⟩, g2⟩
       · exact ⟨es', ⟨d1, v1, by rw [List.getElem?_set_ne he]; exact h1, hw1, h3.moveS Hw hs⟩, rfl⟩
theorem VR.keep {o : Nat} {x x' : Ob} {F : Nat -> Prop} (h : VR P w gh ob v u) (ho : look ob o = some x) (hob' : ∀ o', look ob' o' = if o' = o then some x' else look ob o')
   (hl : ∀ cs, x = .box cs -> ∃ cs', x' = .box cs') (hn : ∀ p e es v2, NavO P w gh o x p (.row false e es) v2 -> isSl v2 -> ∃ es', NavO P w1 gh o x' p (.row false e es') v2 /\ es'.length = es.length)
   (hob : ∀ o y, look ob o = some y -> ObR P w gh o y) (hF : ∀ o' y k, o' ≠ o -> look ob o' = some y -> gh.F o' k -> w1.heap[k]? = w.heap[k]?) (hS : ∀ k, gh.S k -> w1.heap[k]? = w.heap[k]?) :
   VR P w1 (gh.upd o (gh.hv o) (gh.bb o) (gh.bo o) F) ob' v u := by
 obtain ⟨g1, g2, g3⟩ := gh.upd_self o F
 induction h with
 | dead => exact .dead
 | und => exact .und
 | sc h => exact .sc h
 | nil => exact .nil
 | imm h => exact .imm (h.move hS)
 | @ref o' n p y e es A c hx hnv hle =>
   by_cases e1 : o' = o
   · subst e1
     rw [ho] at hx; cases hx
     obtain ⟨es', n1, n2⟩ := hn p e es _ hnv trivial
     refine VR.ref (e := e) (es := es') (A := A) (c := c) (by rw [hob', if_pos rfl]) ?_ (by omega)
     rw [n2]
     exact n1.ghc g1 g2 g3
   · exact .ref (by rw [hob', if_neg e1]; exact hx) (((hob o' y hx).navO hnv (fun k hk => hF o' y k e1 hx hk)).ghc g1 g2 g3) hle
 | @bp o' j cs hx =>
   by_cases e1 : o' = o
   · subst e1
     rw [ho] at hx; cases hx
     obtain ⟨cs', rfl⟩ := hl cs rfl
     have := VR.bp (P := P) (w := w1) (gh := gh.upd o' (gh.hv o') (gh.bb o') (gh.bo o') F) (ob := ob') (o := o') (j := j) (cs := cs') (by rw [hob', if_pos rfl])
     rwa [g2, g3] at this
   · have := VR.bp (P := P) (w := w1) (gh := gh.upd o (gh.hv o) (gh.bb o) (gh.bo o) F) (ob := ob') (o := o') (j := j) (cs := cs) (by rw [hob', if_neg e1]; exact hx)
     rwa [g2, g3] at this
 | @rp o' i j p y e es ad c hx hnv =>
   by_cases e1 : o' = o
   · subst e1
     rw [ho] at hx; cases hx
     obtain ⟨es', n1, n2⟩ := hn p e es _ hnv trivial
     refine VR.rp (e := e) (es := es') (ad := ad) (c := c) (by rw [hob', if_pos rfl]) ?_
     rw [n2]
     exact n1.ghc g1 g2 g3
   · exact .rp (by rw [hob', if_neg e1]; exact hx) (((hob o' y hx).navO hnv (fun k hk => hF o' y k e1 hx hk)).ghc g1 g2 g3)
 | ip U hs h => exact .ip U hs fun q d hd => ⟨(Yf (x := ⟨_, _, none⟩) (hS _ hs)).trans (h q d hd).1, (h q d hd).2.move hS⟩
 | clo h => exact .clo (h.move hS (fun _ hk => hk))
 | agg hl' h1 h ih => exact .agg hl' h1 ih
 | tup hl' h ih => exact .tup hl' ih
 | cond ht hf ih => exact .cond ih hf
theorem zgS (h : Rep P C No st a w gh) {o : Oper} {t : TypeId} {x y : Operand} {K : St -> Prop} (ho : o.op = .store t x y) (hdst : o.dst = none) (hox : (st.ev x).ok) (hoy : (st.ev y).ok)
   (hk : zgy P st t (st.ev x).str (st.ev y).str K) : Comes1 P C o a w K := by
 unfold zgy at hk
 split at hk
 case h_2 => exact hk.elim
 rename_i o1 p i j c hpv hvv
 split at hk
 case h_2 => exact hk.elim
 rename_i x1 hx1
 split at hk
 case h_2 => exact hk.elim
 rename_i e es hsub
 obtain ⟨hi, hj, ht1, hD, hV, hk⟩ := hk
 have hp := h.use x hox
 have hy := h.use y hoy
 rw [hpv] at hp
 rw [hvv] at hy
 have hye : a.eval y = c := hy.sc_inv
 obtain ⟨v', F', n1, n2, n3, n4, n5⟩ := (h.obs o1 _ hx1).up hsub
 have hpv' : ∃ ad cc, v' = .slice (some ad) es.length cc /\ a.eval x = .pointer (some ⟨ad.block, ad.off + (i * szT P e + j), none⟩) := by
   generalize a.eval x = z at hp
   cases hp with
   | rp hx hn =>
     rw [hx1] at hx; cases hx
     obtain ⟨e1, e2⟩ := hn.fn n1
     cases e1
     exact ⟨_, _, e2.symm, rfl⟩
 obtain ⟨ad, cc, rfl, hpv'⟩ := hpv'
 obtain ⟨k0, m0, hce⟩ : ∃ k0 m0, cellAt es i j = some (.sc (.int k0 m0)) := by
   unfold zmv at hD
   split at hD
   · rename_i k0 m0 hh; exact ⟨k0, m0, hh⟩
   · exact hD.elim
 obtain ⟨k1, m1, rfl⟩ : ∃ k1 m1, c = .int k1 m1 := by
   unfold zmu at hV
   split at hV
   · exact ⟨_, _, rfl⟩
   · exact hV.elim
 have hone : (Value.int k1 m1).oneCell' = true := by
   rw [hye] at hy
   cases hy with
   | sc h => exact h
 have hcells : (Value.int k1 m1).cells.toList = [Value.int k1 m1] := by rw [Ye hone]
 have hsz1 : (Value.int k1 m1).cells.size = 1 := by rw [Ye hone]; rfl
 obtain ⟨F1, s1, s2, s3, s4, s5⟩ := n2.store (g := 0) (ds := [D.sc (.int k1 m1)]) (us := [Value.int k1 m1]) (j := j) (G := fun _ _ => False) hi (by simpa using hj) rfl (by simp [hone]) (fun q d hd => by
   cases q with
   | zero => simp at hd; subst hd; exact .sc hone
   | succ q => simp at hd) (fun _ _ _ _ _ hk => hk.elim) (fun _ _ _ hk => hk.elim) (fun k hk => h.nS o1 _ k hx1 (n3 k hk))
 have hse : es.set i (setL (es.getD i []) j [D.sc (.int k1 m1)]) = zO es i j (.sc (.int k1 m1)) := rfl
 rw [hse] at s1
 let w1 := w.setCells ad.block (ad.off + (i * szT P e + j)) [Value.int k1 m1]
 have hu := n5 w1 e (zO es i j (.sc (.int k1 m1))) F1 (fun k hk => zY _ _ _ w k (fun e' => by subst e'; exact h.nS o1 _ _ hx1 (n3 _ s3) hk))
   (fun k hk hk' => zY _ _ _ w k (fun e' => by subst e'; exact hk' s3)) s1 (fun k hk hF => (s2 k hk).elim id (fun ⟨q, hq, hG'⟩ => hG'.elim))
 have hne : ∀ k, k ≠ ad.block -> w1.heap[k]? = w.heap[k]? := fun k hk => zY ad.block _ _ w k hk
 have hbF : gh.F o1 ad.block := n3 _ s3
 have hmay : C.w0.heap.size <= ad.block \/ ∀ f, C.may ad.block f := by
   cases x1 with
   | row e' es' => exact h.wrR o1 e' es' _ hx1 hbF
   | box cs' => exact h.wrB o1 cs' _ hx1 hbF (n4 cs' _ rfl s3)
 have hFo : ∀ o' y' k, o' ≠ o1 -> look st.ob o' = some y' -> gh.F o' k -> w1.heap[k]? = w.heap[k]? := fun o' y' k hne' hy' hk' => hne k (fun e' => by
   subst e'; exact hne' (h.dis o' o1 y' x1 _ hy' hx1 hk' hbF))
 have hSo : ∀ k, gh.S k -> w1.heap[k]? = w.heap[k]? := fun k hk => hne k (fun e' => by subst e'; exact h.nS o1 x1 _ hx1 hbF hk)
 let F2 : Nat -> Prop := fun k => (gh.F o1 k /\ ¬ F' k) \/ F1 k
 have hr2 := h.swap (w1 := w1) (F := F2) (X' := No) hx1 (hu.2 rfl (by simp)) (by simp only [w1]; rw [YQ]; exact Nat.le_refl _) hFo hSo
   (World.keptBut_setCells ad.block _ _ w (fun q hq => ⟨ad.block, _, rfl, hmay.imp id (fun hh => hh _)⟩)) hu.1 (fun k hk => Or.inl (by
     rcases hk with ⟨hk, _⟩ | hk
     · exact hk
     · exact (s2 k hk).elim (n3 k) (fun ⟨_, _, hG'⟩ => hG'.elim))) (fun k hk => hk.elim) (fun _ _ _ hk => hk.elim)
 -- the cell that is written held a number
 have hold : w.cell? ⟨ad.block, ad.off + (i * szT P e + j), none⟩ = some (.int k0 m0) := by
   cases n2 with
   | row xs H own hszz h1 hx dis nb =>
     have hlt := zbd hi (show j < szT P e by omega)
     obtain ⟨g, cap, he, hcc, hm, hcell, _⟩ := yU own (by omega)
     cases he
     have hv := hx i j _ hce
     have h2 := (hcell _ hlt).trans (yt (by rw [own.1]; exact hlt))
     try simp only [Nat.zero_add] at h2
     have hq : xs.getD (i * szT P e + j) undef = .int k0 m0 := by
       generalize H i j = G0 at hv
       generalize xs.getD (i * szT P e + j) undef = z at hv |-
       cases hv; rfl
     rw [hq] at h2
     simpa using h2
 have Hw : ∀ b y, w.cell? b = some y -> isSl y -> w1.cell? b = some y := fun b y hb hs => by
   rw [<- hb]
   refine World.cell?_setCells_out ad.block [Value.int k1 m1] _ w b (fun hb1 hb2 => ?_)
   by_cases hoff : b.off = ad.off + (i * szT P e + j)
   · exfalso
     have e1 : b = ⟨ad.block, ad.off + (i * szT P e + j), none⟩ := by
       cases b; simp_all
     rw [e1, hold] at hb
     cases hb
     exact hs
   · simp only [List.length_singleton]; omega
 obtain ⟨g1, g2, g3⟩ := gh.upd_self o1 F2
 refine ⟨.skip, w1, ?_, Or.inr ⟨rfl, _, gh.upd o1 (gh.hv o1) (gh.bb o1) (gh.bo o1) F2, hk, ?_⟩⟩
 · have hth : w.there ad.block (ad.off + (i * szT P e + j)) (a.eval y).cells.size := by rw [hye, hsz1]; simpa using s5 0 (by simp)
   have := zdc (P := P) w ad.block (ad.off + (i * szT P e + j)) t (a.eval y) hth (by rw [ht1, hye, hsz1]) (by omega) (by rw [hye, Ye hone]; simp [hone])
   have hw1 : w.setCells ad.block (ad.off + (i * szT P e + j)) (a.eval y).cells.toList = w1 := by rw [hye, hcells]
   rw [hw1] at this
   simp only [execOp, ho, hpv']
   simp [Sem.run_bind, this]
 · have htm : ∀ tt, St.get { st with ob := (o1, setO x1 p (.row false e (zO es i j (.sc (.int k1 m1))))) :: drop st.ob o1 } tt = st.get tt := fun _ => rfl
   have hput : a.put o.dst undef = a := by rw [hdst]; rfl
   rw [hput]
   exact {
     obs := hr2.obs, dis := hr2.dis, sS := hr2.sS, nS := hr2.nS, wrR := hr2.wrR, wrB := hr2.wrB, wrC := hr2.wrC, kept := hr2.kept, pins := hr2.pins
     tms := fun tt => by
       rw [htm]
       refine (h.tms tt).keep (x' := setO x1 p (.row false e (zO es i j (.sc (.int k1 m1))))) hx1 (fun o' => ?_) (fun cs hcs => ?_) (fun p' e' es' v2 hn hs => hn.keep Hw hs hsub hce) h.obs hFo hSo
       · have := ye st o1 o' (setO x1 p (.row false e (zO es i j (.sc (.int k1 m1)))))
         unfold St.swap at this
         exact this
       · subst hcs
         cases p with
         | nil => simp [subO] at hsub
         | cons ij p => exact ⟨_, rfl⟩
     nt := hr2.nt, dfs := hr2.dfs, xl := hr2.xl, xS := hr2.xS, xF := hr2.xF, xW := hr2.xW, s0S := hr2.s0S, sZ := hr2.sZ }
theorem zbK (hz : xq P) {ops : Array Oper} {Q : Exit -> Act -> World -> Prop} : ∀ (l : List Oper) {st : St} {a : Act} {w : World} {gh : Gh}, Rep P C No st a w gh -> zik P C ops l st K -> (∀ a w, Up P C K a w -> Q .normal a w) -> wpList P ops Q l a w
 | [], st, a, w, gh, h, hk, hQ => hQ a w ⟨st, gh, hk, h⟩
 | o :: r, st, a, w, gh, h, hk, hQ => by
   have step : (if Region.wanted o (yielded ops a.tmps) then o.wp P a w (Up P C (fun st' => zik P C ops r st' K)) Q else Up P C (fun st' => zik P C ops r st' K) (a.put o.dst undef) w) := by
     unfold zik at hk
     split at hk
     · rename_i t x y hop hdst hg
       obtain ⟨h1, h2, hk⟩ := hk
       have : Region.wanted o (yielded ops a.tmps) = true := by simp [Region.wanted, hg]
       rw [if_pos this]
       exact (zgS h hop hdst h1 h2 hk).wp
     · exact ZK (Q := Q) hz h hk.1 hk.2
   unfold wpList
   split
   · rename_i hw
     rw [if_pos hw] at step
     exact Or.inl (Oper.wp_mono (fun a' w' ⟨st', gh', hk', h'⟩ => zbK hz r h' hk' hQ) step)
   · rename_i hw
     rw [if_neg hw] at step
     obtain ⟨st', gh', hk', h'⟩ := step
     exact zbK hz r h' hk' hQ
theorem Tri.regK (hz : xq P) {id : Nat} {ops : Array Oper} {Q : Exit -> St -> Prop} (h : zik P C ops ops.toList st (Q .normal)) : Tri P C st (.region id ops false) Q :=
 fun a w gh hR => wp_region_list (zbK (K := Q .normal) hz _ hR h (fun a w h => h))
theorem Tri.ite {c : Operand} {x y : Code} {b : Bool} {Q : Exit -> St -> Prop} (hok : (st.ev c).ok) (hb : (st.ev c).str = .sc (.bool b)) (h : Tri P C st (cond b x y) Q) : Tri P C st (.cond c x y) Q := fun a w gh hR => by
 have hv := hR.use c hok
 rw [hb] at hv
 cases b with
 | true => exact wp_cond_split (t := true) hv.sc_inv (fun _ => h a w gh hR) (fun hf => by cases hf)
 | false => exact wp_cond_split (t := false) hv.sc_inv (fun hf => by cases hf) (fun _ => h a w gh hR)
theorem Tri.blk {id : Nat} {c : Code} {Q : Exit -> St -> Prop} (h : Tri P C st c (Exit.blk id Q)) : Tri P C st (.block id c) Q := fun a w gh hR => wp_block (Code.wp_mono (fun e a' w' hq => by
 cases e with
 | exit j =>
   obtain ⟨st', gh', hk, hR'⟩ := hq
   simp only [Exit.inBlock]
   simp only [Exit.blk] at hk
   split
   · rename_i hj; rw [if_pos hj] at hk; exact ⟨st', gh', hk, hR'⟩
   · rename_i hj; rw [if_neg hj] at hk; exact ⟨st', gh', hk, hR'⟩
 | _ => exact hq) (h a w gh hR))
end
attribute [go_sem] zik zgy zmv zmu
def mixT {α : Type} (A B : List α) (i : Nat) : List α := B.take i ++ A.drop i
theorem zaC {α : Type} {A B : List α} (h : B.length = A.length) {i : Nat} (hi : i <= A.length) : (mixT A B i).length = A.length := by simp [mixT]; omega
theorem zdJ {α : Type} (A B : List α) : mixT A B 0 = A := by simp [mixT]
theorem zfV {α : Type} {A B : List α} (h : B.length = A.length) : mixT A B A.length = B := by unfold mixT; rw [<- h, List.take_length, h, List.drop_length, List.append_nil]
theorem zfU {α : Type} {A B : List α} (h : B.length = A.length) {i : Nat} (hi : i < A.length) (h2 : i < (mixT A B i).length) : (mixT A B i)[i] = A[i] := by
 simp only [mixT]
 rw [List.getElem_append_right (by simp; omega)]
 simp [Nat.min_eq_left (show i <= B.length by omega)]
theorem zfT {α : Type} {A B : List α} (h : B.length = A.length) {i : Nat} (hi : i < A.length) : (mixT A B i).set i (B[i]'(by omega)) = mixT A B (i + 1) := by
 have e : (B.take i).length = i := by simp; omega
 unfold mixT
 rw [List.drop_eq_getElem_cons hi, List.set_append_right _ _ (by rw [e]; omega), e, Nat.sub_self, List.set_cons_zero, List.take_succ_eq_append_getElem (by omega), List.append_assoc]
 rfl
theorem zdh {α : Type} (f : α -> List D) (l : List α) {i : Nat} (h : i < l.length) : (rows f l)[i]? = some (f l[i]) := by simp [rows, h]
theorem ziy {α : Type} (f : α -> List D) (l : List α) (i : Nat) (x : α) : (rows f l).set i (f x) = rows f (l.set i x) := by simp [rows, List.map_set]
theorem ziA {α : Type} (f : α -> D) (l : List α) {i : Nat} (h : i < l.length) : (row1 f l)[i]? = some [f l[i]] := by simp [row1, h]
theorem zoO {α : Type} (f : α -> D) (l : List α) (i : Nat) (x : α) : (row1 f l).set i [f x] = row1 f (l.set i x) := by simp [row1, List.map_set]
def hgK (k o : Int) (i : Nat) (q : Int) : Int := if (q == k) && !((i : Int) == o) then o else q
def hgX (k o : Int) (i : Nat) (x : NodeD) : NodeD := ⟨x.kind, x.num, x.name, x.kids.map (hgK k o i)⟩
def hgN (k o : Int) (N : List NodeD) : List NodeD := N.mapIdx (hgX k o)
def hgR (k o : Int) (f : FnD) : FnD := if f.ret == k then ⟨f.name, f.params, f.res, f.body, o⟩ else f
def hgP (k o : Int) (p : ProgramD) : ProgramD := ⟨hgN k o p.nodes, p.fns.map (hgR k o)⟩
theorem YD (k o : Int) (N : List NodeD) : (hgN k o N).length = N.length := by simp [hgN]
theorem ziX (k o : Int) (N : List NodeD) {i : Nat} (h : i < N.length) (h2 : i < (hgN k o N).length) : (hgN k o N)[i] = hgX k o i N[i] := by simp [hgN]
theorem zjO {T : List NodeD} {i : Nat} (h : i < T.length) (K : List Int) : (rows (zg false) T).set i [D.sc (.int .i64 T[i].kind), .sc (.int .i64 T[i].num), .sc (.string T[i].name), .row false 3 (row1 cI K)] = rows (zg false) (T.set i ⟨T[i].kind, T[i].num, T[i].name, K⟩) := ziy (zg false) T i ⟨T[i].kind, T[i].num, T[i].name, K⟩
theorem zme {T : List NodeD} {i : Nat} (h : i < T.length) (K : List Int) : zO (rows (zg false) T) i 3 (.row false 3 (row1 cI K)) = rows (zg false) (T.set i ⟨T[i].kind, T[i].num, T[i].name, K⟩) := by
 unfold zO
 rw [List.getD_eq_getElem?_getD, zdh (zg false) T h]
 exact zjO h K
theorem znO {L : List Int} {j : Nat} (h : j < L.length) (v : Int) : zO (row1 cI L) j 0 (.sc (.int .i64 v)) = row1 cI (L.set j v) := by
 unfold zO
 rw [List.getD_eq_getElem?_getD, ziA cI L h]
 exact zoO cI L j v
theorem zph {T : List FnD} {i : Nat} (h : i < T.length) (o : Int) : zO (rows (fnC false) T) i 4 (.sc (.int .i64 o)) = rows (fnC false) (T.set i ⟨T[i].name, T[i].params, T[i].res, T[i].body, o⟩) := by
 unfold zO
 rw [List.getD_eq_getElem?_getD, zdh (fnC false) T h]
 exact ziy (fnC false) T i ⟨T[i].name, T[i].params, T[i].res, T[i].body, o⟩
theorem ziY (p : ProgramD) (k o : Int) (hf : p.fns.length <= 1048576) (hn : p.nodes.length <= 1048576) (hk : ∀ x ∈ p.nodes, x.kids.length <= 1048576) :
   SoundAt Tryz.prog 71 (fun uf => zu 0 [.ro (.bp 2000 0), .ro (.sc (.int .i64 k)), .ro (.sc (.int .i64 o))]) [(2000, .box (za false p))]
     (fun rs st => rs = [] /\ xp st.ob [(2000, .box (za false (hgP k o p)))]) := by
 have hBl := YD k o p.nodes
 have hFl : (p.fns.map (hgR k o)).length = p.fns.length := by simp
 refine zn (fn := Tryz.f71) (c := Tryz.f71.body.getD .skip) (res := []) (n := 80) zf (by kernel_rfl) (by rfl) (by kernel_rfl) (by rfl) (by rfl) (by simp [zu]) (fun uf ub C hpin hpin2 hfull => ?_)
 simp only [Tryz.f71, Option.getD_some]
 refine Tri.stop zf ⟨80, [(0, .bp 2000 0), (1, vI k), (2, vI o)], [(2000, .box [.row false 83 (rows (zg false) (hgN k o p.nodes)), .row false 104 (rows (fnC false) p.fns)])]⟩ ?_ ?_
 · simp +decide only [zb, za, hpin, hpin2, go_sem, reduceAdd, reduceMul]
   refine Tri.loop (ι := Nat) (fun i => i <= p.nodes.length) (fun i => ⟨80, [(0, .bp 2000 0), (1, vI k), (2, vI o), (14, vI p.nodes.length), (15, vI i)], [(2000, .box [.row false 83 (rows (zg false) (mixT p.nodes (hgN k o p.nodes) i)), .row false 104 (rows (fnC false) p.fns)])]⟩) (fun i => p.nodes.length - i) 0 (by simp) ?_ ?_
   · refine Ent.weak ?_ ?_ ?_ ?_ <;> simp +decide [zQ, subT, subB, zl, zk, zm, St.get, look, vI, vB, vS, cI, cS, cB, zg, za, roI, zdJ]
   · rintro i hi
     refine ze zf _ ?_
     by_cases h' : i < p.nodes.length
     · have e : ((i : Int) < (p.nodes.length : Int)) = True := by simp [h']
       have hml := zaC hBl hi
       have h2 : i < (mixT p.nodes (hgN k o p.nodes) i).length := by omega
       have hg := zfU hBl h' h2
       have hst := zfT hBl h'
       rw [ziX k o p.nodes h'] at hst
       have hkx := hk p.nodes[i] (List.getElem_mem h')
       obtain ⟨T1, hT1⟩ : ∃ T, T = mixT p.nodes (hgN k o p.nodes) (i + 1) := ⟨_, rfl⟩
       rw [<- hT1] at hst
       generalize mixT p.nodes (hgN k o p.nodes) i = T0 at hml h2 hg hst |-
       rw [<- hg] at hst hkx
       have hq := zdh (zg false) T0 h2
       simp only [zg, cI, cS] at hq
       have hci : ((i : Int) < (T0.length : Int)) = True := eq_true (by omega)
       simp +decide only [e, hci, h2, hq, Int.natCast_nonneg, vB, vI, zb, za, hpin, hpin2, go_sem, reduceAdd, reduceMul]
       have hLl : (T0[i].kids.map (hgK k o i)).length = T0[i].kids.length := by simp
       have hsx : T0.set i ⟨T0[i].kind, T0[i].num, T0[i].name, T0[i].kids⟩ = T0 := by
         rw [show (⟨T0[i].kind, T0[i].num, T0[i].name, T0[i].kids⟩ : NodeD) = T0[i] from rfl, List.set_getElem_self]
       have hend : (T0.set i ⟨T0[i].kind, T0[i].num, T0[i].name, T0[i].kids.map (hgK k o i)⟩) = T1 := hst
       generalize hxe : T0[i] = x at hst hkx hq hsx hend hLl |-
       refine Tri.loop (ι := Nat) (fun j => j <= x.kids.length) (fun j => ⟨80, [(0, .bp 2000 0), (1, vI k), (2, vI o), (6, vI i), (14, vI p.nodes.length), (15, vI i), (25, .ref 2000 [(0, 0), (i, 3)] x.kids.length), (26, vI x.kids.length), (27, vI j)], [(2000, .box [.row false 83 (rows (zg false) (T0.set i ⟨x.kind, x.num, x.name, mixT x.kids (x.kids.map (hgK k o i)) j⟩)), .row false 104 (rows (fnC false) p.fns)])]⟩) (fun j => x.kids.length - j) 0 (by simp) ?_ ?_
       · refine Ent.weak ?_ ?_ ?_ ?_ <;> simp +decide [zQ, subT, subB, zl, zk, zm, St.get, look, vI, vB, vS, cI, cS, cB, zg, za, roI, zdJ, hsx]
       · rintro j hj
         by_cases hj' : j < x.kids.length
         · have ej : ((j : Int) < (x.kids.length : Int)) = True := by simp [hj']
           have hKl := zaC hLl hj
           have hj2 : j < (mixT x.kids (x.kids.map (hgK k o i)) j).length := by omega
           have hKg := zfU hLl hj' hj2
           have hKs := zfT hLl hj'
           rw [List.getElem_map] at hKs
           obtain ⟨K1, hK1⟩ : ∃ K, K = mixT x.kids (x.kids.map (hgK k o i)) (j + 1) := ⟨_, rfl⟩
           rw [<- hK1] at hKs
           generalize mixT x.kids (x.kids.map (hgK k o i)) j = K0 at hKl hj2 hKg hKs |-
           have hTl : (T0.set i ⟨x.kind, x.num, x.name, K0⟩).length = T0.length := by simp
           have hi2 : i < (T0.set i ⟨x.kind, x.num, x.name, K0⟩).length := by omega
           have hTg : (T0.set i ⟨x.kind, x.num, x.name, K0⟩)[i] = ⟨x.kind, x.num, x.name, K0⟩ := by simp
           have hq2 := zdh (zg false) _ hi2
           rw [hTg] at hq2
           simp only [zg, cI, cS] at hq2
           have hr2 := ziA cI K0 hj2
           rw [hKg] at hr2
           simp only [cI] at hr2
           have hcK : ((j : Int) < (K0.length : Int)) = True := eq_true (by omega)
           have hciT : ((i : Int) < ((T0.set i ⟨x.kind, x.num, x.name, K0⟩).length : Int)) = True := eq_true (by omega)
           have hTT : ∀ K, (T0.set i ⟨x.kind, x.num, x.name, K0⟩).set i ⟨x.kind, x.num, x.name, K⟩ = T0.set i ⟨x.kind, x.num, x.name, K⟩ := fun K => by rw [List.set_set]
           have hks := fun K => zjO hi2 K
           rw [hTg] at hks
           simp only [hTT] at hks
           have hsc := znO hj2 o
           have hKK : ∀ y, K0[j] = y -> K0.set j y = K0 := fun y hy => by rw [<- hy, List.set_getElem_self]
           have hKK := hKK _ hKg
           generalize hq0 : x.kids[j] = q at hKg hKs hr2 hKK
           refine Tri.step zf ?_
           simp +decide only [ej, vB, vI, zb, za, hpin, hpin2, go_sem, reduceAdd, reduceMul]
           refine Tri.step zf ?_
           simp +decide only [zb, za, hpin, hpin2, go_sem, reduceAdd, reduceMul]
           refine Tri.seq (Tri.blk ?_)
           refine Tri.step zf ?_
           simp +decide only [hq2, hr2, hcK, hciT, ej, hj2, hi2, Int.natCast_nonneg, zb, za, hpin, hpin2, go_sem, reduceAdd, reduceMul]
           refine Tri.step zf ?_
           cases h1 : q == k with
           | false =>
             have hgq : hgK k o i q = q := by unfold hgK; rw [h1]; rfl
             rw [hgq, hKK] at hKs
             simp +decide only [h1, zb, za, hpin, hpin2, go_sem, reduceAdd, reduceMul]
             refine ze zf _ ?_
             simp +decide only [zb, za, hpin, hpin2, go_sem, reduceAdd, reduceMul]
             refine ze zf _ ?_
             simp +decide only [zb, za, hpin, hpin2, go_sem, reduceAdd, reduceMul]
             refine ⟨j + 1, hj', by omega, Ent.weak ?_ ?_ ?_ ?_⟩
             all_goals simp +decide [zQ, subT, subB, zl, zk, zm, St.get, look, vI, vB, vS, cI, cS, cB, zg, za, roI, <- hK1, <- hKs, w64s (n := x.kids.length) hj' (by omega)]
           | true =>
             cases h3 : (i : Int) == o with
             | true =>
               have hgq : hgK k o i q = q := by unfold hgK; rw [h1, h3]; rfl
               rw [hgq, hKK] at hKs
               simp +decide only [h1, h3, bne, zb, za, hpin, hpin2, go_sem, reduceAdd, reduceMul]
               refine ze zf _ ?_
               simp +decide only [zb, za, hpin, hpin2, go_sem, reduceAdd, reduceMul]
               refine ze zf _ ?_
               simp +decide only [zb, za, hpin, hpin2, go_sem, reduceAdd, reduceMul]
               refine ⟨j + 1, hj', by omega, Ent.weak ?_ ?_ ?_ ?_⟩
               all_goals simp +decide [zQ, subT, subB, zl, zk, zm, St.get, look, vI, vB, vS, cI, cS, cB, zg, za, roI, <- hK1, <- hKs, w64s (n := x.kids.length) hj' (by omega)]
             | false =>
               simp +decide only [h1, h3, bne, zb, za, hpin, hpin2, go_sem, reduceAdd, reduceMul]
               refine Tri.ite (b := true) (by simp +decide only [zb, za, hpin, hpin2, go_sem, reduceAdd, reduceMul]) (by simp +decide only [zb, za, hpin, hpin2, go_sem, reduceAdd, reduceMul]) ?_
               refine Tri.regK zf ?_
               have hgq : hgK k o i q = o := by unfold hgK; rw [h1, h3]; rfl
               rw [hgq] at hKs
               rw [hKs] at hsc
               simp +decide only [hq2, hr2, hcK, hciT, ej, hj2, hi2, hsc, hks, Int.natCast_nonneg, zb, za, hpin, hpin2, go_sem, reduceAdd, reduceMul]
               refine ze zf _ ?_
               simp +decide only [zb, za, hpin, hpin2, go_sem, reduceAdd, reduceMul]
               have hsk := zme hi2 K1
               rw [hTg] at hsk
               simp only [hTT] at hsk
               refine ⟨j + 1, hj', by omega, Ent.weak ?_ ?_ ?_ ?_⟩
               all_goals simp +decide [zQ, subT, subB, zl, zk, zm, St.get, look, vI, vB, vS, cI, cS, cB, zg, za, roI, <- hK1, hsk, w64s (n := x.kids.length) hj' (by omega)]
         · have hjl : j = x.kids.length := by omega
           subst hjl
           have ej : ((x.kids.length : Int) < (x.kids.length : Int)) = False := by simp
           refine ze zf _ ?_
           simp +decide only [ej, zfV hLl, hend, vB, vI, zb, za, hpin, hpin2, go_sem, reduceAdd, reduceMul]
           refine ⟨i + 1, h', by omega, Ent.weak ?_ ?_ ?_ ?_⟩
           all_goals simp +decide [zQ, subT, subB, zl, zk, zm, St.get, look, vI, vB, vS, cI, cS, cB, zg, za, roI, <- hT1, w64s (n := p.nodes.length) h' (by omega)]
     · have hil : i = p.nodes.length := by omega
       subst hil
       have e : ((p.nodes.length : Int) < (p.nodes.length : Int)) = False := by simp
       simp +decide only [e, zfV hBl, vB, vI, zb, za, hpin, hpin2, go_sem, reduceAdd, reduceMul]
       refine Ent.weak ?_ ?_ ?_ ?_
       all_goals simp +decide [zQ, subT, subB, zl, zk, zm, St.get, look, vI, vB, vS, cI, cS, cB, zg, za, roI]
 · refine Tri.step zf ?_
   simp +decide only [zb, za, hpin, hpin2, go_sem, reduceAdd, reduceMul]
   refine ze zf _ ?_
   simp +decide only [zb, za, hpin, hpin2, go_sem, reduceAdd, reduceMul]
   refine Tri.loop (ι := Nat) (fun i => i <= p.fns.length) (fun i => ⟨80, [(0, .bp 2000 0), (1, vI k), (2, vI o), (57, vI p.fns.length), (58, vI i)], [(2000, .box [.row false 83 (rows (zg false) (hgN k o p.nodes)), .row false 104 (rows (fnC false) (mixT p.fns (p.fns.map (hgR k o)) i))])]⟩) (fun i => p.fns.length - i) 0 (by simp) ?_ ?_
   · refine Ent.weak ?_ ?_ ?_ ?_ <;> simp +decide [zQ, subT, subB, zl, zk, zm, St.get, look, vI, vB, vS, cI, cS, cB, zg, za, roI, zdJ]
   · rintro i hi
     refine ze zf _ ?_
     by_cases h' : i < p.fns.length
     · have e : ((i : Int) < (p.fns.length : Int)) = True := by simp [h']
       have hml := zaC hFl hi
       have h2 : i < (mixT p.fns (p.fns.map (hgR k o)) i).length := by omega
       have hg := zfU hFl h' h2
       have hst := zfT hFl h'
       rw [List.getElem_map] at hst
       obtain ⟨T1, hT1⟩ : ∃ T, T = mixT p.fns (p.fns.map (hgR k o)) (i + 1) := ⟨_, rfl⟩
       rw [<- hT1] at hst
       generalize mixT p.fns (p.fns.map (hgR k o)) i = T0 at hml h2 hg hst |-
       have hq := zdh (fnC false) T0 h2
       have hci : ((i : Int) < (T0.length : Int)) = True := eq_true (by omega)
       have hss := zph h2 o
       have hTT : ∀ y, T0[i] = y -> T0.set i y = T0 := fun y hy => by rw [<- hy, List.set_getElem_self]
       have hTT := hTT _ hg
       rw [hg] at hq hss
       generalize p.fns[i] = f at hg hst hq hss hTT
       simp only [fnC, cI, cS] at hq
       unfold hgR at hst
       cases h1 : f.ret == k with
       | false =>
         rw [h1, if_neg (by decide), hTT] at hst
         simp +decide only [e, hci, h2, hq, h1, Int.natCast_nonneg, vB, vI, zb, za, hpin, hpin2, go_sem, reduceAdd, reduceMul]
         refine ⟨i + 1, h', by omega, Ent.weak ?_ ?_ ?_ ?_⟩
         all_goals simp +decide [zQ, subT, subB, zl, zk, zm, St.get, look, vI, vB, vS, cI, cS, cB, zg, za, roI, <- hT1, <- hst, w64s (n := p.fns.length) h' (by omega)]
       | true =>
         rw [h1, if_pos rfl] at hst
         rw [hst] at hss
         have hss3 : (rows (fnC false) T0).set i (((rows (fnC false) T0)[i]?.getD []).set 4 (D.sc (.int .i64 o))) = rows (fnC false) T1 := by rw [<- hss]; unfold zO; simp [List.getD]
         simp +decide only [e, hci, h2, hq, h1, hss, Int.natCast_nonneg, vB, vI, zb, za, hpin, hpin2, go_sem, reduceAdd, reduceMul]
         refine ⟨i + 1, h', by omega, Ent.weak ?_ ?_ ?_ ?_⟩
         all_goals simp +decide [zQ, subT, subB, zl, zk, zm, St.get, look, vI, vB, vS, cI, cS, cB, zg, za, roI, <- hT1, hss, hss3, w64s (n := p.fns.length) h' (by omega)]
     · have hil : i = p.fns.length := by omega
       subst hil
       have e : ((p.fns.length : Int) < (p.fns.length : Int)) = False := by simp
       simp +decide only [e, zfV hFl, hgP, vB, vI, zb, za, hpin, hpin2, go_sem, reduceAdd, reduceMul]
theorem zrx : fo Tryz.prog 134 0 = some 0 := by kernel_rfl
theorem zrw : fo Tryz.prog 134 1 = some 2 := by kernel_rfl
theorem zrv : fo Tryz.prog 134 2 = some 3 := by kernel_rfl
theorem rLoS : isR Tryz.prog 134 = some true := by kernel_rfl
theorem sLoS : szT Tryz.prog 134 = 7 := by kernel_rfl
theorem zLoS : zeroCells Tryz.prog 134 = some [.slice none 0 0, .slice none 0 0, .slice none 0 0, .string ⟨#[]⟩, .int .i64 0, .slice none 0 0, .slice none 0 0] := by kernel_rfl
theorem zrh : xG Tryz.prog 134 = some [(0, 2), (2, 1), (3, 4)] := by kernel_rfl
attribute [go_sem] zrx zrw zrv rLoS sLoS zLoS zrh
def GoodS (p : ProgramD) (l : List VarD) (n : Nat) : Prop := Yd p l n = true
theorem GoodS.kid {p : ProgramD} {l : List VarD} {n : Nat} (h : GoodS p l n) (hn : n < p.nodes.length) {k : Int} (hk : k ∈ p.nodes[n].kids) : GoodS p l k.toNat := by
 unfold GoodS at h |-
 rw [zby l hn, Bool.and_eq_true, List.all_eq_true] at h
 exact h.2 k hk
theorem GoodS.own {p : ProgramD} {l : List VarD} {n : Nat} (h : GoodS p l n) (hn : n < p.nodes.length) : stB p l n = true := by
 unfold GoodS at h
 rw [zby l hn, Bool.and_eq_true] at h
 exact h.1
theorem zdl {p : ProgramD} (h : ya p = true) : xL p = true /\ ∀ i, i < p.fns.length -> xn p i = true := by
 unfold ya at h
 obtain ⟨h1, h2⟩ := Bool.and_eq_true_iff.1 h
 unfold yM at h1
 exact ⟨(Bool.and_eq_true_iff.1 h1).1, yL.1 h2⟩
def kdP {σ : Type} (V : Int -> σ -> Int × σ) (q : List Int × σ) (k : Int) : List Int × σ := (q.1 ++ [(V k q.2).1], (V k q.2).2)
def kdQ {σ : Type} (V : Int -> σ -> Int × σ) (l : List Int) (i : Nat) (s : σ) : List Int × σ := (l.take i).foldl (kdP V) ([], s)
theorem zhL {σ : Type} {V W : Int -> σ -> Int × σ} : ∀ (l : List Int) (q : List Int × σ), (∀ k ∈ l, ∀ s, V k s = W k s) -> l.foldl (kdP V) q = l.foldl (kdP W) q
 | [], _, _ => rfl
 | a :: r, q, h => by
   have e : kdP V q a = kdP W q a := by unfold kdP; rw [h a (List.mem_cons_self ..)]
   rw [List.foldl_cons, List.foldl_cons, e, zhL r _ (fun k hk => h k (List.mem_cons_of_mem _ hk))]
theorem zbm {σ : Type} (V : Int -> σ -> Int × σ) (l : List Int) {i : Nat} (h : i < l.length) (s : σ) : kdQ V l (i + 1) s = kdP V (kdQ V l i s) l[i] := by
 unfold kdQ
 rw [List.take_succ_eq_append_getElem h, List.foldl_append]; rfl
theorem zjQ {σ : Type} (V : Int -> σ -> Int × σ) (l : List Int) (s : σ) : kdQ V l 0 s = ([], s) := rfl
theorem zgd {σ : Type} (V : Int -> σ -> Int × σ) (l : List Int) (s : σ) : ∀ i, i <= l.length -> (kdQ V l i s).1.length = i
 | 0, _ => by simp [kdQ]
 | i + 1, h => by rw [zbm V l (by omega)]; simp [kdP, zgd V l s i (by omega)]
def hitB (ps : List ParamD) (x : NodeD) : Bool := x.kind == 2 && ps.any (fun q => decide (q.name = x.name))
def hitK (ps : List ParamD) (ks : List Int) (x : NodeD) : Int := ks.getD (ps.findIdx (fun q => decide (q.name = x.name))) 0
def inK (ps : List ParamD) (ks : List Int) (V : Int -> List NodeD -> Int × List NodeD) (x : NodeD) (T : List NodeD) : Int × List NodeD :=
 if hitB ps x then (hitK ps ks x, T) else (((kdQ V x.kids x.kids.length T).2.length : Int), (kdQ V x.kids x.kids.length T).2 ++ [⟨x.kind, x.num, x.name, (kdQ V x.kids x.kids.length T).1⟩])
def inF (N : List NodeD) (ps : List ParamD) (ks : List Int) : Nat -> Int -> List NodeD -> Int × List NodeD
 | 0, _, T => (0, T)
 | d + 1, k, T => inK ps ks (inF N ps ks d) (nAt N k) T
def inV (N : List NodeD) (ps : List ParamD) (ks : List Int) (k : Int) (T : List NodeD) : Int × List NodeD := inF N ps ks (k.toNat + 1) k T
theorem zhR {ps : List ParamD} {ks : List Int} {V W : Int -> List NodeD -> Int × List NodeD} {x : NodeD} (h : ∀ k ∈ x.kids, ∀ T, V k T = W k T) (T : List NodeD) : inK ps ks V x T = inK ps ks W x T := by
 have e : kdQ V x.kids x.kids.length T = kdQ W x.kids x.kids.length T := by unfold kdQ; rw [List.take_length]; exact zhL _ _ h
 unfold inK
 rw [e]
theorem znT {N : List NodeD} (hD : Deep N) (ps : List ParamD) (ks : List Int) : ∀ (d n : Nat) (T : List NodeD), n < N.length -> n < d -> inF N ps ks d n T = inV N ps ks n T := by
 intro d
 induction d using Nat.strongRecOn with
 | ind d ih =>
 intro n T hn hd
 obtain ⟨e, rfl⟩ : ∃ e, d = e + 1 := ⟨d - 1, by omega⟩
 unfold inV
 have e2 : ((n : Int).toNat + 1) = n + 1 := by omega
 rw [e2]
 unfold inF
 rw [zG hn]
 apply zhR
 intro kid hk T2
 obtain ⟨q0, q1, q2⟩ := hD.kid hn kid hk
 obtain ⟨m, rfl⟩ : ∃ m : Nat, kid = m := ⟨kid.toNat, by omega⟩
 have h1 := ih e (by omega) m T2 (by omega) (by omega)
 by_cases hne : n = e
 · subst hne; rfl
 · have h2 := ih n (by omega) m T2 (by omega) (by omega)
   rw [h1, h2]
theorem zjS {N : List NodeD} (hD : Deep N) (ps : List ParamD) (ks : List Int) {n : Nat} (hn : n < N.length) (T : List NodeD) : inV N ps ks n T = inK ps ks (inV N ps ks) N[n] T := by
 have e2 : ((n : Int).toNat + 1) = n + 1 := by omega
 unfold inV
 rw [e2]
 conv => lhs; unfold inF
 rw [zG hn]
 apply zhR
 intro kid hk T2
 obtain ⟨q0, q1, q2⟩ := hD.kid hn kid hk
 obtain ⟨m, rfl⟩ : ∃ m : Nat, kid = m := ⟨kid.toNat, by omega⟩
 exact znT hD ps ks n m T2 (by omega) (by omega)
def grows (T T2 : List NodeD) (z : Nat) : Prop := ∃ E : List NodeD, T2 = T ++ E /\ E.length <= z /\ ∀ x ∈ E, x.kids.length <= 12
theorem grows.refl (T : List NodeD) (z : Nat) : grows T T z := ⟨[], by simp, by simp, fun x hx => by simp at hx⟩
theorem grows.trans {T T2 T3 : List NodeD} {a b : Nat} (h : grows T T2 a) (h2 : grows T2 T3 b) : grows T T3 (a + b) := by
 obtain ⟨E, rfl, e1, e2⟩ := h
 obtain ⟨G, rfl, g1, g2⟩ := h2
 refine ⟨E ++ G, by simp, by simp; omega, fun x hx => ?_⟩
 rcases List.mem_append.1 hx with hx | hx
 · exact e2 x hx
 · exact g2 x hx
theorem grows.mono {T T2 : List NodeD} {a b : Nat} (h : grows T T2 a) (hab : a <= b) : grows T T2 b := by
 obtain ⟨E, h1, h2, h3⟩ := h
 exact ⟨E, h1, by omega, h3⟩
theorem grows.len {T T2 : List NodeD} {a : Nat} (h : grows T T2 a) : T.length <= T2.length /\ T2.length <= T.length + a := by
 obtain ⟨E, rfl, h2, _⟩ := h
 simp; omega
theorem grows.get {T T2 : List NodeD} {a : Nat} (h : grows T T2 a) {n : Nat} (hn : n < T.length) : n < T2.length /\ nAt T2 n = nAt T n := by
 obtain ⟨E, rfl, _, _⟩ := h
 have h2 : n < (T ++ E).length := by simp; omega
 refine ⟨h2, ?_⟩
 rw [zG h2, zG hn, List.getElem_append_left hn]
theorem zbn {V : Int -> List NodeD -> Int × List NodeD} {z : Int -> Nat} (l : List Int) (h : ∀ k ∈ l, ∀ T, grows T (V k T).2 (z k)) (T : List NodeD) : ∀ i, i <= l.length -> grows T (kdQ V l i T).2 (sumN z (l.take i))
 | 0, _ => by simp only [kdQ, List.take_zero, List.foldl_nil]; exact .refl T _
 | i + 1, hi => by
   rw [zbm V l (by omega), List.take_succ_eq_append_getElem (by omega), zcG]
   have h1 := zbn l h T i (by omega)
   have h2 := h l[i] (List.getElem_mem _) (kdQ V l i T).2
   have : sumN z [l[i]] = z l[i] := by simp [sumN]
   rw [this]
   exact h1.trans h2
theorem zdV {N : List NodeD} (hD : Deep N) (ps : List ParamD) (ks : List Int) (n : Nat) : n < N.length -> ∀ T : List NodeD, grows T (inV N ps ks n T).2 (szB N n) := by
 induction n using Nat.strongRecOn with
 | ind n ih =>
 intro hn T
 have hs := zly hD hn
 rw [zjS hD ps ks hn]
 have h1 := zbn (V := inV N ps ks) (z := szB N) N[n].kids (fun k hk T2 => by
   obtain ⟨q0, q1, q2⟩ := hD.kid hn k hk
   obtain ⟨m, rfl⟩ : ∃ m : Nat, k = m := ⟨k.toNat, by omega⟩
   exact ih m (by omega) (by omega) T2) T N[n].kids.length (by omega)
 have h2 := zgd (inV N ps ks) N[n].kids T N[n].kids.length (by omega)
 have h3 := hD.few N[n] (List.getElem_mem hn)
 rw [List.take_length] at h1
 unfold inK
 generalize kdQ (inV N ps ks) N[n].kids N[n].kids.length T = q at h1 h2 |-
 split
 · exact .refl T _
 · refine (h1.trans (b := 1) ⟨[⟨N[n].kind, N[n].num, N[n].name, q.1⟩], rfl, by simp, fun x hx => ?_⟩).mono (by omega)
   rw [List.mem_singleton] at hx
   subst hx
   show q.1.length <= 12
   omega
theorem zow {V : Int -> List NodeD -> Int × List NodeD} (ks l : List Int) (h : ∀ k ∈ l, ∀ T, T.length <= (V k T).2.length /\ ((V k T).1 ∈ ks \/ (T.length : Int) <= (V k T).1)) (T : List NodeD) : ∀ i, i <= l.length -> T.length <= (kdQ V l i T).2.length /\ ∀ q ∈ (kdQ V l i T).1, q ∈ ks \/ (T.length : Int) <= q
 | 0, _ => ⟨by simp [kdQ], fun q hq => by simp [kdQ] at hq⟩
 | i + 1, hi => by
   obtain ⟨g1, g2⟩ := zow ks l h T i (by omega)
   rw [zbm V l (by omega)]
   obtain ⟨h1, h2⟩ := h l[i] (List.getElem_mem _) (kdQ V l i T).2
   refine ⟨Nat.le_trans g1 h1, fun q hq => ?_⟩
   simp only [kdP, List.mem_append, List.mem_singleton] at hq
   rcases hq with hq | rfl
   · exact g2 q hq
   · rcases h2 with h2 | h2
     · exact Or.inl h2
     · right; omega
theorem znU {ps : List ParamD} {ks : List Int} (hl : ks.length = ps.length) {x : NodeD} (h : hitB ps x = true) : hitK ps ks x ∈ ks := by
 unfold hitB at h
 have h2 := (Bool.and_eq_true_iff.1 h).2
 have h3 : ps.findIdx (fun q => decide (q.name = x.name)) < ps.length := by
   rw [List.findIdx_lt_length]
   obtain ⟨q, hq, hqn⟩ := List.any_eq_true.1 h2
   exact ⟨q, hq, hqn⟩
 unfold hitK
 rw [List.getD_eq_getElem?_getD, List.getElem?_eq_getElem (by omega), Option.getD_some]
 exact List.getElem_mem _
theorem zql {N : List NodeD} (hD : Deep N) (ps : List ParamD) (ks : List Int) (hl : ks.length = ps.length) (n : Nat) : n < N.length -> ∀ T : List NodeD,
   T.length <= (inV N ps ks n T).2.length /\ ((inV N ps ks n T).1 ∈ ks \/ ((T.length : Int) <= (inV N ps ks n T).1 /\ (inV N ps ks n T).1 < ((inV N ps ks n T).2.length : Int) /\ ∀ q ∈ (nAt (inV N ps ks n T).2 (inV N ps ks n T).1).kids, q ∈ ks \/ (T.length : Int) <= q)) := by
 induction n using Nat.strongRecOn with
 | ind n ih =>
 intro hn T
 rw [zjS hD ps ks hn]
 obtain ⟨h1, h2⟩ := zow (V := inV N ps ks) ks N[n].kids (fun k hk T2 => by
   obtain ⟨q0, q1, q2⟩ := hD.kid hn k hk
   obtain ⟨m, rfl⟩ : ∃ m : Nat, k = m := ⟨k.toNat, by omega⟩
   obtain ⟨g1, g2⟩ := ih m (by omega) (by omega) T2
   exact ⟨g1, g2.imp id (fun g => g.1)⟩) T N[n].kids.length (by omega)
 unfold inK
 generalize kdQ (inV N ps ks) N[n].kids N[n].kids.length T = q at h1 h2 |-
 split
 · rename_i hh
   exact ⟨Nat.le_refl _, Or.inl (znU hl hh)⟩
 · refine ⟨by simp; omega, Or.inr ⟨by simp only; omega, by simp; omega, ?_⟩⟩
   have e : nAt (q.2 ++ [⟨N[n].kind, N[n].num, N[n].name, q.1⟩]) (q.2.length : Int) = ⟨N[n].kind, N[n].num, N[n].name, q.1⟩ := by
     rw [zG (by simp)]
     simp
   simp only
   rw [e]
   exact h2
theorem zmj {X : List NodeD} {a : Nat} (h : a < X.length) (k : Nat) (y : NodeD) : nAt (X.set k y) (a : Int) = if k = a then y else nAt X (a : Int) := by
 have h2 : a < (X.set k y).length := by simpa using h
 rw [zG h2, zG h, List.getElem_set]
theorem zmk {X : List NodeD} {a : Nat} (h : a < X.length) (k o : Int) : nAt (hgN k o X) (a : Int) = hgX k o a (nAt X (a : Int)) := by
 have h2 : a < (hgN k o X).length := by rw [YD]; exact h
 rw [zG h2, zG h, ziX]
theorem zlS {X : List NodeD} {F : List FnD} {k : Nat} {at_ : Int} (hk : k < X.length) (ha : 0 <= at_ /\ at_ < X.length) (hne : at_ ≠ k) (hnk : ∀ q ∈ (nAt X at_).kids, q ≠ (k : Int)) (hb : ∀ f ∈ F, f.body ≠ (k : Int)) :
   YU (hgP k at_ ⟨X, F⟩) = YU ⟨X.set k (nAt X at_), F⟩ := by
 obtain ⟨ha0, ha1⟩ := ha
 have key : ∀ d a b, ((a ≠ (k : Int) /\ b = a) \/ (a = at_ /\ b = (k : Int))) -> simN (hgN k at_ X) (X.set k (nAt X at_)) d a b := by
   refine zlF (R := fun a b => (a ≠ (k : Int) /\ b = a) \/ (a = at_ /\ b = (k : Int))) (fun a b hr => ?_)
   have hl1 := YD k at_ X
   have hl2 : (X.set k (nAt X at_)).length = X.length := by simp
   rw [hl1, hl2]
   have kid : ∀ q : Int, (hgK k at_ a.toNat q ≠ k /\ q = hgK k at_ a.toNat q) \/ (hgK k at_ a.toNat q = at_ /\ q = k) \/ ((a.toNat : Int) = at_ /\ q = k) := fun q => by
     unfold hgK
     by_cases h1 : q = k
     · subst h1
       by_cases h2 : (a.toNat : Int) = at_
       · exact Or.inr (Or.inr ⟨h2, rfl⟩)
       · right; left
         have h3 : ((a.toNat : Int) == at_) = false := by simpa using h2
         rw [h3]
         exact ⟨by simp, rfl⟩
     · left
       have : (q == (k : Int)) = false := by simpa using h1
       rw [this]
       simp [h1]
   have fin : ∀ (i : Nat) (x y : Int) (l : List Int), (∀ q ∈ l, (a.toNat : Int) = at_ -> q ≠ (k : Int)) -> (l.map (hgK k at_ a.toNat))[i]? = some x -> l[i]? = some y -> (x ≠ (k : Int) /\ y = x) \/ (x = at_ /\ y = (k : Int)) := fun i x y l hq hx hy => by
     rw [List.getElem?_map, hy, Option.map_some, Option.some.injEq] at hx
     subst hx
     rcases kid y with h | h | h
     · exact Or.inl h
     · exact Or.inr h
     · exact absurd h.2 (hq y (List.mem_of_getElem? hy) h.1)
   rcases hr with ⟨h1, rfl⟩ | ⟨rfl, rfl⟩
   · refine ⟨rfl, fun hi => ?_⟩
     have hr := zA hi
     obtain ⟨n, rfl⟩ : ∃ n : Nat, b = n := ⟨b.toNat, by omega⟩
     have hn : n < X.length := by omega
     rw [zmk hn, zmj hn, if_neg (by omega)]
     refine ⟨rfl, rfl, rfl, by simp [hgX], fun i x y hx hy => ?_⟩
     refine fin i x y _ (fun q hq he => ?_) hx hy
     have : at_ = (n : Int) := by rw [<- he]; rfl
     rw [this] at hnk
     exact hnk q hq
   · have e1 : inI a 0 (X.length - 1) = true := by simp [inI]; omega
     have e2 : inI (k : Int) 0 (X.length - 1) = true := by simp [inI]; omega
     refine ⟨by rw [e1, e2], fun hi => ?_⟩
     obtain ⟨n, rfl⟩ : ∃ n : Nat, a = n := ⟨a.toNat, by omega⟩
     have hn : n < X.length := by omega
     rw [zmk hn, zmj hk, if_pos rfl]
     refine ⟨rfl, rfl, rfl, by simp [hgX], fun i x y hx hy => ?_⟩
     exact fin i x y _ (fun q hq he => hnk q hq) hx hy
 refine znB (by simp [hgP]) (fun i f g hf hg => ?_)
 simp only [hgP, List.getElem?_map, hg, Option.map_some, Option.some.injEq] at hf
 subst hf
 have hbg := hb g (List.mem_of_getElem? hg)
 unfold hgR
 by_cases h : g.ret = (k : Int)
 · rw [h, if_pos (by simp)]
   refine ⟨rfl, rfl, rfl, key 10 _ _ (Or.inl ⟨hbg, rfl⟩), by simp only; omega, fun _ => key 10 _ _ (Or.inr ⟨rfl, rfl⟩), fun hh => absurd ha0 hh⟩
 · rw [if_neg (by simpa using h)]
   exact ⟨rfl, rfl, rfl, key 10 _ _ (Or.inl ⟨hbg, rfl⟩), Iff.rfl, fun _ => key 10 _ _ (Or.inl ⟨h, rfl⟩), fun _ => rfl⟩
theorem zkt {p : ProgramD} (hD : Deep p.nodes) (fn : Int) {n m : Nat} (hr : Reach p.nodes n m) (hn : n < p.nodes.length) : ∀ nm, zU p fn n nm = true -> ∃ nm2, zU p fn m nm2 = true := by
 induction hr with
 | refl => exact fun nm h => ⟨nm, h⟩
 | @step m kid h hm hk ih =>
   intro nm hs
   obtain ⟨nm2, h2⟩ := ih nm hs
   rw [XR hD fn hm] at h2
   have h3 := (Bool.and_eq_true_iff.1 h2).2
   have key : ∀ (l : List Int) (nm : List ByteArray), Zf (zU p fn) p.nodes (p.nodes[m].kind == 20) nm l = true -> kid ∈ l -> ∃ nm2, zU p fn kid nm2 = true := by
     intro l
     induction l with
     | nil => intro nm _ hk; simp at hk
     | cons a r ih2 =>
       intro nm hh hk
       unfold Zf at hh
       obtain ⟨g1, g2⟩ := Bool.and_eq_true_iff.1 hh
       rcases List.mem_cons.1 hk with rfl | hk
       · exact ⟨nm, g1⟩
       · exact ih2 _ g2 hk
   obtain ⟨nm3, h4⟩ := key _ _ h3 hk
   have h0 := (hD.kid hm kid hk).1
   rw [show ((kid.toNat : Nat) : Int) = kid by omega]
   exact ⟨nm3, h4⟩
theorem zpi {p : ProgramD} (hR : ya p = true) {f : Nat} (hf : f < p.fns.length) {k : Int} (hk : k ∈ fnNs p f) (h12 : (nAt p.nodes k).kind = 12) : zgw p f (nAt p.nodes k) = true := by
 have hG := yw (zdl hR).1
 have hD := hG.deep
 have hnm : xa p f = true := by
   unfold ya at hR
   have h1 := (Bool.and_eq_true_iff.1 hR).1
   unfold yM at h1
   exact yL.1 (Bool.and_eq_true_iff.1 h1).2 f hf
 unfold xa at hnm
 obtain ⟨_, h2⟩ := Bool.and_eq_true_iff.1 hnm
 obtain ⟨hb, hret⟩ := Bool.and_eq_true_iff.1 h2
 have hfn := hG.fn f hf
 have hfe : fAt p.fns (f : Int) = p.fns[f] := yO hf
 obtain ⟨⟨b0, b1⟩, hrt⟩ := xB hfn
 obtain ⟨r, hr, hu⟩ := (zbs p f k).1 hk
 rw [hfe] at hb hret
 have hroot : ∃ m : Nat, r = m /\ m < p.nodes.length /\ ∃ nm, zU p f m nm = true := by
   unfold zam at hr
   rw [hfe] at hr
   split at hr
   · rcases List.mem_cons.1 hr with rfl | hr
     · exact ⟨p.fns[f].body.toNat, by omega, b1, _, by rw [show ((p.fns[f].body.toNat : Nat) : Int) = p.fns[f].body by omega]; exact hb⟩
     · split at hr
       · simp at hr
       · rw [List.mem_singleton] at hr
         subst hr
         rename_i hne
         have hne : p.fns[f].ret ≠ -1 := by simpa using hne
         rcases hrt with hrt | ⟨r0, r1⟩
         · exfalso
           unfold YE at hfn
           simp only [Bool.and_eq_true] at hfn
           have h6 := hfn.2.2.2.2.2
           unfold zfj at h6
           split at h6
           · exact hne (by simpa using h6)
           · have := zA (Bool.and_eq_true_iff.1 h6).1
             omega
         · have : decide (p.fns[f].ret < 0) = false := by simpa using r0
           rw [this, Bool.false_or] at hret
           exact ⟨p.fns[f].ret.toNat, by omega, r1, _, by rw [show ((p.fns[f].ret.toNat : Nat) : Int) = p.fns[f].ret by omega]; exact hret⟩
   · simp at hr
 obtain ⟨m, rfl, hm, nm, hs⟩ := hroot
 have hu2 : k ∈ yR p.nodes m := by
   unfold zW at hu
   split at hu
   · simp at hu
   · simpa using hu
 unfold yR at hu2
 obtain ⟨j, hj, rfl⟩ := List.mem_map.1 hu2
 have hre := (yQ (hD.deep m hm)).1 hj
 have hjl : j < p.nodes.length := by have := hre.le (hD.deep m hm); omega
 obtain ⟨nm2, h3⟩ := zkt hD f hre hm nm hs
 rw [XR hD f hjl] at h3
 have h4 := (Bool.and_eq_true_iff.1 h3).1
 unfold ownB at h4
 have h5 := (Bool.and_eq_true_iff.1 h4).2
 rw [zG hjl] at h12 |-
 rw [h12] at h5
 simpa using h5
theorem zmS {p : ProgramD} (hR : ya p = true) {f : Nat} (hf : f < p.fns.length) {k : Int} (hk : k ∈ fnNs p f) (h12 : (nAt p.nodes k).kind = 12) : 0 <= xb p.fns (nAt p.nodes k).name /\ (xb p.fns (nAt p.nodes k).name).toNat < p.fns.length /\ (nAt p.nodes k).kids.length = (fAt p.fns (xb p.fns (nAt p.nodes k).name)).params.length := by
 have h := zpi hR hf hk h12
 unfold zgw at h
 obtain ⟨h1, h2⟩ := Bool.and_eq_true_iff.1 h
 have h1 := zA h1
 simp only [beq_iff_eq] at h2
 omega
def Cx.repin (C : Cx) (o : Nat) (x : Option (Value × Nat × Nat)) : Cx := ⟨C.w0, C.s0, C.may, fun k => if k = o then x else C.pin k, C.z⟩
theorem Cx.repin_repin (C : Cx) (o : Nat) (x y : Option (Value × Nat × Nat)) : (C.repin o x).repin o y = C.repin o y := by
 unfold Cx.repin
 simp only
 congr 1
 funext k
 split
 · rfl
 · rfl
theorem Cx.repin_full {C : Cx} (h : C.full) (o : Nat) (x : Option (Value × Nat × Nat)) : (C.repin o x).full := h
theorem Cx.repin_pin {C : Cx} (h : ∀ o, yZ o = false -> C.pin o = none) {k : Nat} (hk : yZ k = true) (x : Option (Value × Nat × Nat)) : ∀ o, yZ o = false -> (C.repin k x).pin o = none := fun o ho => by
 unfold Cx.repin
 simp only
 rw [if_neg (fun e => by rw [e, hk] at ho; cases ho)]
 exact h o ho
theorem Cx.repin_self (C : Cx) (k : Nat) (x : Option (Value × Nat × Nat)) : (C.repin k x).pin k = x := by simp [Cx.repin]
theorem Cx.repin_other (C : Cx) {k o : Nat} (h : o ≠ k) (x : Option (Value × Nat × Nat)) : (C.repin k x).pin o = C.pin o := by simp [Cx.repin, h]
noncomputable def St.back (k o : Nat) (p : List (Nat × Nat)) (v : Value) (st : St) : St := open Classical in match look st.ob k with
 | some (.row e es) => (match look st.ob o with
   | some x => (match subO x p with
     | some (.sc u) => if u = v then (st.kill k).swap o (setO x p (.row false e es)) else st
     | _ => st)
   | none => st)
 | _ => st
noncomputable def zfH (k : Nat) (v : Value) (n : Nat) : V -> V
 | .sc u => open Classical in if u = v then .ref k [] n else .sc u
 | x => x
noncomputable def zoI (k : Nat) (v : Value) (n : Nat) : V -> V
 | .agg vs => .agg (vs.map (zfH k v n))
 | x => zfH k v n x
noncomputable def St.same (k : Nat) (v : Value) (t : Nat) (st : St) : St := match look st.ob k with
 | some (.row e es) => st.set t (zoI k v es.length (st.get t))
 | _ => st
section
variable {P : Program} {w w1 : World} {C : Cx} {X : Nat -> Prop} {gh gh1 : Gh} {st : St} {a : Act} {v : Value} {u : Value} {ob : List (Nat × Ob)} {S : Nat -> Prop} {K : St -> Prop}
theorem Rep.repin (h : Rep P C X st a w gh) (o : Nat) (x : Option (Value × Nat × Nat)) (hx : ∀ y, x = some y -> look st.ob o ≠ none -> (gh.hv o, gh.bb o, gh.bo o) = y) : Rep P (C.repin o x) X st a w gh where
 obs := h.obs
 dis := h.dis
 sS := h.sS
 nS := h.nS
 wrR := h.wrR
 wrB := h.wrB
 wrC := h.wrC
 kept := h.kept
 pins := fun o' y hp hn => by
   unfold Cx.repin at hp
   simp only at hp
   split at hp
   · rename_i e; subst e; exact hx y hp hn
   · exact h.pins o' y hp hn
 tms := h.tms
 nt := h.nt
 dfs := h.dfs
 xl := h.xl
 xS := h.xS
 xF := h.xF
 xW := h.xW
 s0S := h.s0S
 sZ := h.sZ
theorem Rep.unpin {o : Nat} {x : Option (Value × Nat × Nat)} (h : Rep P (C.repin o x) X st a w gh) (ho : look st.ob o = none) : Rep P C X st a w gh where
 obs := h.obs
 dis := h.dis
 sS := h.sS
 nS := h.nS
 wrR := h.wrR
 wrB := h.wrB
 wrC := h.wrC
 kept := h.kept
 pins := fun o' y hp hn => by
   by_cases e : o' = o
   · subst e; exact absurd ho hn
   · exact h.pins o' y (by rw [Cx.repin_other C e]; exact hp) hn
 tms := h.tms
 nt := h.nt
 dfs := h.dfs
 xl := h.xl
 xS := h.xS
 xF := h.xF
 xW := h.xW
 s0S := h.s0S
 sZ := h.sZ
theorem Ow.sliceV {e : TypeId} {es : List (List D)} {F : Nat -> Prop} (h : Ow P w S (.row false e es) u F) : ∃ A c, u = .slice A es.length c := by
 generalize hd : D.row false e es = d at h
 cases h with
 | dead => cases hd
 | sc => cases hd
 | shared => cases hd
 | row xs F own =>
   cases hd
   rcases own.2 with ⟨rfl, h0⟩ | ⟨g, cap, cur, rfl, _⟩
   · refine ⟨none, 0, ?_⟩
     first | rw [h0] | rw [h0.1] | rw [h0.2]
   · exact ⟨_, _, rfl⟩
theorem Tri.lift (k o : Nat) (p : List (Nat × Nat)) {e : TypeId} {es : List (List D)} {x : Ob} {c : Code} {Q : Exit -> St -> Prop} (ho : look st.ob o = some x) (hs : subO x p = some (.row false e es)) (hp : p ≠ []) (hk : look st.ob k = none)
   (h : ∀ y : Value × Nat × Nat, (∃ A c, y.1 = .slice A es.length c) -> Tri P (C.repin k (some y)) ((st.swap o (setO x p (.sc y.1))).put k (.row e es)) c (fun e s => look s.ob k = none /\ Q e s)) : Tri P C st c Q := fun a w gh hR => by
 obtain ⟨v', F', hn, how, hsub, hbb, hback⟩ := (hR.obs o x ho).part hs hp
 have hko : k ≠ o := fun e => by rw [e, ho] at hk; cases hk
 have h1 := hback (.sc v') (fun _ => False) (.sc how.one) (fun k hk => hk.elim)
 have h2 := hR.swap (X' := F') ho (zcJ hp _) (Nat.le_refl _) (fun _ _ _ _ _ _ => rfl) (fun _ _ => rfl) (World.keptBut_refl w _) h1 (fun k hk => Or.inl (hk.elim (fun h => h.1) False.elim)) (fun k hk => ⟨Or.inl (hsub k hk), fun h => h.elim (fun h => h.2 hk) id⟩) (fun cs k e hk he => hbb cs e (he ▸ hk))
 have hk2 : look (st.swap o (setO x p (.sc v'))).ob k = none := by rw [ye, if_neg hko]; exact hk
 have h3 := h2.repin k none (fun y hy => by cases hy)
 have h4 := h3.lay (o := k) (x := .row e es) (v' := v') (b := 0) (f := 0) (F := F') hk2 (Cx.repin_self C k none) (.row (by simpa [Gh.upd] using how)) (fun _ h => h)
 have h5 := (h4.less (X' := No) (fun _ hk => hk.elim)).repin k (some (v', 0, 0)) (fun y hy _ => by cases hy; simp [Gh.upd])
 rw [Cx.repin_repin] at h5
 exact Code.wp_mono (fun e a' w' ⟨s, g, hq, hr⟩ => ⟨s, g, hq.2, hr.unpin hq.1⟩) (h (v', 0, 0) how.sliceV a w _ h5)
theorem Ent.back {k o : Nat} {p : List (Nat × Nat)} {x0 : Nat × Nat} (hpk : C.pin k = some (v, x0)) (hko : k ≠ o) (hp : p ≠ []) : Ent P C st (st.back k o p v) := fun a w gh hR => by
 unfold St.back
 split
 case h_2 => exact ⟨gh, hR⟩
 rename_i e es hk
 split
 case h_2 => exact ⟨gh, hR⟩
 rename_i x ho
 split
 case h_2 => exact ⟨gh, hR⟩
 rename_i u hs
 split
 case isFalse => exact ⟨gh, hR⟩
 rename_i huv
 have hv : gh.hv k = v := by
   have := hR.pins k _ hpk (by rw [hk]; simp)
   exact congrArg (·.1) this
 have h1 := hR.take hk
 have ho1 : look (st.kill k).ob o = some x := by
   show look (drop st.ob k) o = some x
   rw [yf, if_neg hko]; exact ho
 obtain ⟨v', F', hn, how, hsub, hbb, hback⟩ := (h1.obs o x ho1).part hs hp
 have hrow : Ow P w gh.S (.row false e es) (gh.hv k) (gh.F k) := by
   have := hR.obs k _ hk
   cases this with | row h => exact h
 have huv' : v' = u /\ ∀ k, ¬ F' k := by
   generalize hd : D.sc u = d at how
   cases how with
   | dead => cases hd
   | sc => cases hd; exact ⟨rfl, fun _ h => h⟩
   | shared => cases hd
   | row => cases hd
 have hdis : ∀ j, gh.F k j -> ¬ gh.F o j := fun j h1 h2 => hko (hR.dis k o _ _ j hk ho h1 h2)
 rw [hv, <- huv, <- huv'.1] at hrow
 have h2 := hback (.row false e es) (gh.F k) hrow (fun j g1 g2 => absurd g2 (hdis j g1))
 exact ⟨_, h1.swap (X' := No) ho1 (zcJ hp _) (Nat.le_refl _) (fun _ _ _ _ _ _ => rfl) (fun _ _ => rfl) (World.keptBut_refl w _) h2 (fun j hj => hj.elim (fun h => Or.inl h.1) (fun h => Or.inr (Or.inr h))) (fun _ hk => hk.elim) (fun _ _ _ hk => hk.elim)⟩
theorem Ent.same {k : Nat} {x0 : Nat × Nat} (hpk : C.pin k = some (v, x0)) (t : Nat) : Ent P C st (st.same k v t) := fun a w gh hR => by
 unfold St.same
 split
 case h_2 => exact ⟨gh, hR⟩
 rename_i e es hk
 have hv : gh.hv k = v := by
   have := hR.pins k _ hpk (by rw [hk]; simp)
   exact congrArg (·.1) this
 have hrow : Ow P w gh.S (.row false e es) (gh.hv k) (gh.F k) := by
   have := hR.obs k _ hk
   cases this with | row h => exact h
 obtain ⟨A, c, hA⟩ := hrow.sliceV
 have key : ∀ (x : V) (y : Value), VR P w gh st.ob x y -> VR P w gh st.ob (zfH k v es.length x) y := fun x y h => by
   unfold zfH
   split
   · split
     · rename_i u _ huv
       cases h with
       | sc h1 =>
         rw [huv, <- hv, hA]
         exact VR.whole hk hA (Nat.le_refl _)
     · exact h
   · exact h
 refine ⟨gh, hR.set0 ?_⟩
 have h := hR.tms t
 generalize st.get t = x at h |-
 generalize a.tmps.getD t undef = y at h |-
 unfold zoI
 split
 · cases h with
   | agg hl h1 h =>
     refine .agg (by simpa using hl) h1 (fun i z hz => ?_)
     rw [List.getElem?_map] at hz
     obtain ⟨z0, hz0, rfl⟩ := Option.map_eq_some_iff.1 hz
     exact key _ _ (h i z0 hz0)
 · exact key _ _ h
def cutB (P : Program) (C : Cx) (ops : Array Oper) (l : List Oper) (K : St -> Prop) (st : St) : Prop := ∀ a w gh, Rep P C No st a w gh -> ∃ s2 gh', Rep P C No s2 a w gh' /\ aOps P C ops l s2 K
theorem zgu {ops : Array Oper} {l : List Oper} {K : St -> Prop} {st s2 : St} (h : aOps P C ops l s2 K) (he : Ent P C st s2) : cutB P C ops l K st := fun a w gh hR => by
 obtain ⟨g, hg⟩ := he a w gh hR
 exact ⟨s2, g, hg, h⟩
theorem zla {ops : Array Oper} {l : List Oper} {K : St -> Prop} {st : St} (t : Nat) {o n : Nat} {p : List (Nat × Nat)} (ht : st.get t = .ref o p n) (h : ∀ A c, aOps P C ops l (st.set t (.sc (.slice A n c))) K) : cutB P C ops l K st := fun a w gh hR => by
 have hv := hR.tms t
 rw [ht] at hv
 generalize hu : a.tmps.getD t undef = u at hv
 cases hv with
 | @ref _ _ _ x e es A c hx hn hle => exact ⟨_, gh, hR.set0 (by rw [hu]; exact .sc rfl), h A c⟩
theorem ziJ (hz : xq P) {ops : Array Oper} {Q : Exit -> Act -> World -> Prop} (l2 : List Oper) : ∀ (l : List Oper) {st : St} {a : Act} {w : World} {gh : Gh}, Rep P C No st a w gh -> aOps P C ops l st (cutB P C ops l2 K) -> (∀ a w, Up P C K a w -> Q .normal a w) -> wpList P ops Q (l ++ l2) a w
 | [], st, a, w, gh, h, hk, hQ => by
   obtain ⟨s2, g', h', hk⟩ := hk a w gh h
   exact zbb hz l2 h' hk hQ
 | o :: r, st, a, w, gh, h, hk, hQ => by
   obtain ⟨hd, hk⟩ := hk
   have := ZK (Q := Q) hz h hd hk
   rw [List.cons_append]
   unfold wpList
   split
   · rename_i hw
     rw [if_pos hw] at this
     exact Or.inl (Oper.wp_mono (fun a' w' ⟨st', gh', hk', h'⟩ => ziJ hz l2 r h' hk' hQ) this)
   · rename_i hw
     rw [if_neg hw] at this
     obtain ⟨st', gh', hk', h'⟩ := this
     exact ziJ hz l2 r h' hk' hQ
theorem Tri.cut (hz : xq P) (n : Nat) {id : Nat} {ops : Array Oper} {Q : Exit -> St -> Prop} (h : aOps P C ops (ops.toList.take n) st (cutB P C ops (ops.toList.drop n) (Q .normal))) : Tri P C st (.region id ops false) Q := fun a w gh hR => by
 refine wp_region_list ?_
 have := ziJ (Q := fun e a' w' => Up P C (Q e) a' w') hz (ops.toList.drop n) (ops.toList.take n) hR h (fun a w h => h)
 rwa [List.take_append_drop] at this
end
attribute [go_sem] St.back St.same zoI zfH
def kidD (h : Option Value) (ks : List Int) : D := match h with
 | none => .row false 3 (row1 cI ks)
 | some v => .sc v
def zbh (h : Option Value) (x : NodeD) : List D := [.sc (.int .i64 x.kind), .sc (.int .i64 x.num), .sc (.string x.name), kidD h x.kids]
def yv (H : Nat -> Option Value) (T : List NodeD) : List (List D) := T.mapIdx (fun i x => zbh (H i) x)
def upH (H : Nat -> Option Value) (n : Nat) (v : Value) : Nat -> Option Value := fun i => if i = n then some v else H i
theorem zh (H : Nat -> Option Value) (T : List NodeD) : (yv H T).length = T.length := by simp [yv]
theorem zbI (T : List NodeD) : yv (fun _ => none) T = rows (zg false) T := by
 apply List.ext_getElem
 · simp [yv, rows]
 · intro i h1 h2
   simp [yv, rows, zbh, zg, kidD, cI, cS]
theorem Yi (H : Nat -> Option Value) {T : List NodeD} {i : Nat} (h : i < T.length) : (yv H T)[i]? = some (zbh (H i) T[i]) := by simp [yv, h]
theorem zhh (H : Nat -> Option Value) {T : List NodeD} {n : Nat} (h : n < T.length) (v : Value) : zO (yv H T) n 3 (.sc v) = yv (upH H n v) T := by
 unfold zO
 rw [List.getD_eq_getElem?_getD, Yi H h]
 apply List.ext_getElem
 · simp [yv]
 · intro i h1 h2
   rw [List.getElem_set]
   split
   · rename_i e; subst e
     simp [yv, zbh, upH, kidD]
   · rename_i e
     have : ¬ i = n := fun e' => e e'.symm
     simp [yv, zbh, upH, this]
theorem zbJ (H : Nat -> Option Value) {T : List NodeD} {n : Nat} (h : n < T.length) (hn : H n = none) (v : Value) : zO (yv (upH H n v) T) n 3 (.row false 3 (row1 cI T[n].kids)) = yv H T := by
 unfold zO
 rw [List.getD_eq_getElem?_getD, Yi _ h]
 apply List.ext_getElem
 · simp [yv]
 · intro i h1 h2
   rw [List.getElem_set]
   split
   · rename_i e; subst e
     simp [yv, zbh, upH, kidD, hn]
   · rename_i e
     have : ¬ i = n := fun e' => e e'.symm
     simp [yv, zbh, upH, this]
theorem zkw (H : Nat -> Option Value) (T : List NodeD) (x : NodeD) (h : H T.length = none) : yv H T ++ [[D.sc (.int .i64 x.kind), .sc (.int .i64 x.num), .sc (.string x.name), .row false 3 (row1 cI x.kids)]] = yv H (T ++ [x]) := by
 apply List.ext_getElem
 · simp [yv]
 · intro i h1 h2
   simp only [yv, List.length_append, List.length_mapIdx, List.length_singleton] at h1
   by_cases hi : i < T.length
   · rw [List.getElem_append_left (by simpa [yv] using hi)]
     simp only [yv, List.getElem_mapIdx]
     rw [List.getElem_append_left hi]
   · have : i = T.length := by omega
     subst this
     rw [List.getElem_append_right (by simp [yv])]
     simp [yv, zbh, h, kidD]
theorem zlA {H : Nat -> Option Value} {T : List NodeD} {n : Nat} (h : n < T.length) (hn : H n = none) (G : D) : subO (.box [.row false 83 (yv H T), G]) [(0, 0), (n, 3)] = some (.row false 3 (row1 cI T[n].kids)) := by
 simp [subO, subD, cellAt, Yi H h, zbh, hn, kidD]
theorem zlG {H : Nat -> Option Value} {T : List NodeD} {n : Nat} (h : n < T.length) (v : Value) (G : D) : setO (.box [.row false 83 (yv H T), G]) [(0, 0), (n, 3)] (.sc v) = .box [.row false 83 (yv (upH H n v) T), G] := by
 have e := zhh H h v
 simp only [setO, List.getD, List.getElem?_cons_zero, Option.getD_some, List.set_cons_zero, setD, e]
theorem zjp (R : List (List D)) (G : D) (x : NodeD) (hN : R.length <= 1048575) : SoundAt Tryz.prog 70 (fun uf => zu 0 [.ro (.bp 2000 0), .ro (.agg [.sc (.int .i64 x.kind), .sc (.int .i64 x.num), .sc (.string x.name), .ref 2001 [] x.kids.length])]) [(2001, .row 3 (row1 cI x.kids)), (2000, .box [.row false 83 R, G])]
   (fun rs st => rs = [(false, [cI R.length])] /\ xp st.ob [(2000, .box [.row false 83 (R ++ [[D.sc (.int .i64 x.kind), .sc (.int .i64 x.num), .sc (.string x.name), .row false 3 (row1 cI x.kids)]]), G])]) := by
 have hb1 : R.length + 1 <= 140737488355328 := by omega
 have hb2 : (R.length + 1) * 56 <= 140737488355328 := by omega
 have hl1 : (R ++ [[D.sc (.int .i64 x.kind), .sc (.int .i64 x.num), .sc (.string x.name), .row false 3 (row1 cI x.kids)]]).length = R.length + 1 := by simp
 have w1 : IntKind.i64.wrap (((R.length + 1 : Nat) : Int) - 1) = R.length := by rw [show (((R.length + 1 : Nat) : Int) - 1) = R.length by omega]; exact w64 (by omega) (by omega)
 refine zn (fn := Tryz.f70) (c := Tryz.f70.body.getD .skip) (res := [.tm 4]) (n := 21) zf (by kernel_rfl) (by rfl) (by kernel_rfl) (by rfl) (by rfl) (by simp [zu]) (fun uf ub C hpin hpin2 hfull => ?_)
 simp only [Tryz.f70, Option.getD_some]
 refine Tri.step zf ?_
 simp +decide only [zh, hpin, hpin2, go_sem, reduceAdd, reduceMul]
 refine Tri.step zf ?_
 refine Tri.fork zf (.one 0 true (.one 1 true (.one 2 true (.one 3 true (.two 4 (.one 5 false (.one 6 false (.one 7 false (.one 8 false (.one 9 false (.one 10 false .done)))))) 5 (.two 4 (.one 6 false (.one 7 false (.one 8 false (.one 9 false (.one 10 false .done))))) 6 (.one 4 false (.one 7 false (.one 8 false (.one 9 false (.one 10 false .done))))))))))) zS (by kernel_rfl) (fun C2 hC2 => ?_)
 have hp2 := zV hC2 hpin
 simp +decide only [hb1, hb2, hl1, zh, hp2, hpin, hpin2, go_sem, reduceAdd, reduceMul]
 refine ⟨?_, ?_, ?_⟩ <;> refine ze zf _ ?_
 all_goals simp +decide only [w1, hl1, zh, hpin, hpin2, go_sem, reduceAdd, reduceMul]
def InAt (N : List NodeD) (ps : List ParamD) (ks : List Int) (G : D) (n : Nat) : Prop := ∀ (H : Nat -> Option Value) (T : List NodeD), (∀ j, j <= n -> H j = none) -> (∀ j, N.length <= j -> H j = none) -> (∃ E, T = N ++ E) -> T.length + szB N n <= 1048575 ->
 SoundAt Tryz.prog 91 (fun uf => zu 0 [.ro (.bp 2000 0), .ro (.sc (.int .i64 n)), .ro (.imm 107 (rows (zq true) ps)), .ro (roI ks)]) [(2000, .box [.row false 83 (yv H T), G])]
   (fun rs st => rs = [(false, [cI (inV N ps ks n T).1])] /\ xp st.ob [(2000, .box [.row false 83 (yv H (inV N ps ks n T).2), G])])
theorem znv (N : List NodeD) (hD : Deep N) (ps : List ParamD) (ks : List Int) (hl : ks.length = ps.length) (hps : ps.length <= 1048576) (G : D) (n : Nat) (hn : n < N.length) (ih : ∀ m, m < n -> InAt N ps ks G m) : InAt N ps ks G n := by
 intro H T hH1 hH2 hE hT
 obtain ⟨E, hE⟩ := hE
 have hnT : n < T.length := by rw [hE]; simp; omega
 have hTn : T[n] = N[n] := by simp [hE, List.getElem_append_left hn]
 have hHn : H n = none := hH1 n (by omega)
 have heq := zjS hD ps ks hn T
 have hsz := zly hD hn
 have hkid := hD.kid hn
 have hfew := hD.few N[n] (List.getElem_mem hn)
 have hgrow := zbn (V := inV N ps ks) (z := szB N) N[n].kids (fun k hk T2 => by
   obtain ⟨q0, q1, q2⟩ := hkid k hk
   obtain ⟨m, rfl⟩ : ∃ m : Nat, k = m := ⟨k.toNat, by omega⟩
   exact zdV hD ps ks m (by omega) T2) T
 have hpart : ∀ i (hi : i < N[n].kids.length), sumN (szB N) (N[n].kids.take i) + szB N N[n].kids[i] <= sumN (szB N) N[n].kids := fun i hi => by
   have h1 := Zk (szB N) N[n].kids (i + 1)
   rw [List.take_succ_eq_append_getElem hi, zcG] at h1
   have : sumN (szB N) [N[n].kids[i]] = szB N N[n].kids[i] := by simp [sumN]
   omega
 have hsub := zlA hnT hHn G
 rw [hTn] at hsub
 have hset := fun v => zlG (H := H) hnT v G
 have hgq := fun v => Yi (upH H n v) hnT
 have hlast := fun v => zbJ H hnT hHn v
 have hup : ∀ v, upH H n v n = some v := fun v => by simp [upH]
 have hrec : ∀ v, ∀ i (hi : i < N[n].kids.length), ∀ T2, (∃ E, T2 = N ++ E) -> T2.length + szB N N[n].kids[i] <= 1048575 -> SoundAt Tryz.prog 91 (fun uf => zu 0 [.ro (.bp 2000 0), .ro (.sc (.int .i64 N[n].kids[i])), .ro (.imm 107 (rows (zq true) ps)), .ro (roI ks)]) [(2000, .box [.row false 83 (yv (upH H n v) T2), G])]
     (fun rs st => rs = [(false, [cI (inV N ps ks N[n].kids[i] T2).1])] /\ xp st.ob [(2000, .box [.row false 83 (yv (upH H n v) (inV N ps ks N[n].kids[i] T2).2), G])]) := fun v i hi T2 hE2 h2 => by
   obtain ⟨q0, q1, q2⟩ := hkid N[n].kids[i] (List.getElem_mem hi)
   have e : N[n].kids[i] = (N[n].kids[i].toNat : Int) := by omega
   rw [e] at h2
   have := ih N[n].kids[i].toNat q2 (upH H n v) T2 (fun j hj => by unfold upH; rw [if_neg (by omega)]; exact hH1 j (by omega)) (fun j hj => by unfold upH; rw [if_neg (by omega)]; exact hH2 j hj) hE2 h2
   rw [<- e] at this
   exact this
 have c1 : ((n : Int) < (T.length : Int)) = True := eq_true (by omega)
 have hgl : ∀ i, i <= N[n].kids.length -> n < (kdQ (inV N ps ks) N[n].kids i T).2.length /\ ∃ E, (kdQ (inV N ps ks) N[n].kids i T).2 = N ++ E := fun i hi => by
   obtain ⟨E2, g1, g2, g3⟩ := hgrow i hi
   rw [g1, hE]
   exact ⟨by simp; omega, E ++ E2, by simp⟩
 have hbn : ∀ v T2, (∃ E, T2 = N ++ E) -> zO (yv (upH H n v) T2) n 3 (.row false 3 (row1 cI N[n].kids)) = yv H T2 := fun v T2 hE2 => by
   obtain ⟨E2, rfl⟩ := hE2
   have := zbJ H (T := N ++ E2) (n := n) (by simp; omega) hHn v
   rw [show (N ++ E2)[n]'(by simp; omega) = N[n] from List.getElem_append_left hn] at this
   exact this
 simp only [hTn] at hgq hlast
 generalize inV N ps ks n T = R at heq |-
 generalize szB N n = Z at hT hsz
 generalize N[n] = x at heq hsz hkid hfew hgrow hpart hsub hgq hlast hrec hgl hbn
 simp only [zbh, kidD, hup] at hgq
 unfold inK at heq
 refine zn (fn := Tryz.f91) (c := Tryz.f91.body.getD .skip) (res := [.tm 8]) (n := 65) zf (by kernel_rfl) (by rfl) (by kernel_rfl) (by rfl) (by rfl) (by simp [zu]) (fun uf ub C hpin hpin2 hfull => ?_)
 simp only [Tryz.f91, Option.getD_some]
 refine Tri.step zf ?_
 simp +decide only [zh, hpin, hpin2, go_sem, reduceAdd, reduceMul]
 refine Tri.lift 2500 2000 [(0, 0), (n, 3)] rfl hsub (by simp) rfl (fun y hy => ?_)
 rw [hset]
 obtain ⟨v, y0⟩ := y
 have hp1 := Cx.repin_pin hpin (k := 2500) rfl (some (v, y0))
 have hf1 := Cx.repin_full hfull 2500 (some (v, y0))
 have hq1 : ∀ o, o ≠ 2500 -> yZ o = true -> (C.repin 2500 (some (v, y0))).pin o = some (uf o, ub o) := fun o ho hp => by rw [Cx.repin_other C ho]; exact hpin2 o hp
 have hpk := Cx.repin_self C 2500 (some (v, y0))
 generalize C.repin 2500 (some (v, y0)) = C1 at hp1 hf1 hq1 hpk |-
 refine Tri.last (fun s => s.back 2500 2000 [(0, 0), (n, 3)] v) (fun s => Ent.back hpk (by decide) (by simp)) ?_
 refine Tri.step zf ?_
 simp +decide only [c1, hnT, hgq, Int.natCast_nonneg, zh, hp1, hq1, go_sem, reduceAdd, reduceMul]
 have hpget : ∀ i (h : i < ps.length), (rows (zq true) ps).getD i [] = zq true ps[i] := fun i h => zi _ _ h
 cases hh : hitB ps x with
 | true =>
   rw [hh, if_pos rfl] at heq
   have h2 : (x.kind == 2) = true := (Bool.and_eq_true_iff.1 hh).1
   have hil : ps.findIdx (fun q => decide (q.name = x.name)) < ps.length := by
     rw [List.findIdx_lt_length]
     obtain ⟨q, hq, hqn⟩ := List.any_eq_true.1 (Bool.and_eq_true_iff.1 hh).2
     exact ⟨q, hq, hqn⟩
   have hkk : hitK ps ks x = ks[ps.findIdx (fun q => decide (q.name = x.name))]'(by omega) := by unfold hitK; rw [List.getD_eq_getElem?_getD, List.getElem?_eq_getElem (by omega), Option.getD_some]
   have hyes := List.findIdx_getElem (w := hil)
   have hno : ∀ i (h : i < ps.findIdx (fun q => decide (q.name = x.name))), decide ((ps[i]'(by omega)).name = x.name) = false := fun i h => by
     have := List.not_of_lt_findIdx h
     simpa using this
   rw [hkk] at heq
   subst heq
   obtain ⟨I, hI⟩ : ∃ I, ps.findIdx (fun q => decide (q.name = x.name)) = I := ⟨_, rfl⟩
   simp only [hI] at hil hyes hno |-
   have hbT := hbn v T ⟨E, hE⟩
   have hks : ∀ j (h : j < ks.length), (row1 cI ks).getD j [] = [cI ks[j]] := fun j h => zt _ _ h
   have hil2 : I < ks.length := by omega
   refine Tri.step zf ?_
   simp +decide only [h2, zh, hp1, hq1, go_sem, reduceAdd, reduceMul]
   refine Tri.loop (ι := Nat) (fun i => i <= I) (fun i => ⟨65, [(2, .imm 107 (rows (zq true) ps)), (3, roI ks), (9, .bp 9 0), (26, .imm 107 (rows (zq true) ps)), (27, vI ps.length), (28, vI i)], [(9, .box [.sc (.int .i64 x.kind), .sc (.int .i64 x.num), .sc (.string x.name), .sc v]), (2500, .row 3 (row1 cI x.kids)), (2000, .box [.row false 83 (yv (upH H n v) T), G])]⟩) (fun i => ps.length - i) 0 (by simp) ?_ ?_
   · refine Ent.weak ?_ ?_ ?_ ?_ <;> simp +decide [zQ, yp, subT, subB, zl, zk, zm, St.get, look, vI, vB, vS, cI, cS, cB, zg, roI]
   · rintro i hi
     have h' : i < ps.length := by omega
     have e : ((i : Int) < (ps.length : Int)) = True := by simp [h']
     refine ze zf _ ?_
     by_cases hiI : i = I
     · subst hiI
       have hcI : ((i : Int) < (ks.length : Int)) = True := eq_true (by omega)
       simp +decide only [e, h', hpget i h', zq, hyes, hks i hil2, hil2, hcI, hbT, hgq, Int.natCast_nonneg, vB, vI, zh, hp1, hq1, go_sem, reduceAdd, reduceMul]
     · have d1 := hno i (by omega)
       simp +decide only [e, h', hpget i h', zq, d1, Int.natCast_nonneg, vB, vI, zh, hp1, hq1, go_sem, reduceAdd, reduceMul]
       refine ⟨i + 1, by omega, by omega, Ent.weak ?_ ?_ ?_ ?_⟩
       all_goals simp +decide [zQ, yp, subT, subB, zl, zk, zm, St.get, look, vI, vB, vS, cI, cS, cB, zg, roI, w64s (n := ps.length) h' (by omega)]
 | false =>
   rw [hh, if_neg (by decide)] at heq
   refine Tri.stop zf ⟨65, [(0, .bp 2000 0), (2, .imm 107 (rows (zq true) ps)), (3, roI ks), (9, .bp 9 0)], [(9, .box [.sc (.int .i64 x.kind), .sc (.int .i64 x.num), .sc (.string x.name), .sc v]), (2500, .row 3 (row1 cI x.kids)), (2000, .box [.row false 83 (yv (upH H n v) T), G])]⟩ ?_ ?_
   · cases h2 : x.kind == 2 with
     | false =>
       simp +decide only [h2, zh, hp1, hq1, go_sem, reduceAdd, reduceMul]
       refine Ent.weak ?_ ?_ ?_ ?_ <;> simp +decide [zQ, yp, subT, subB, zl, zk, zm, St.get, look, vI, vB, vS, cI, cS, cB, zg, roI]
     | true =>
       have hno : ∀ i (h : i < ps.length), decide (ps[i].name = x.name) = false := fun i h => by
         unfold hitB at hh
         rw [h2, Bool.true_and] at hh
         exact by simpa using List.any_eq_false.1 hh ps[i] (List.getElem_mem h)
       simp +decide only [h2, zh, hp1, hq1, go_sem, reduceAdd, reduceMul]
       refine Tri.loop (ι := Nat) (fun i => i <= ps.length) (fun i => ⟨65, [(0, .bp 2000 0), (2, .imm 107 (rows (zq true) ps)), (3, roI ks), (9, .bp 9 0), (26, .imm 107 (rows (zq true) ps)), (27, vI ps.length), (28, vI i)], [(9, .box [.sc (.int .i64 x.kind), .sc (.int .i64 x.num), .sc (.string x.name), .sc v]), (2500, .row 3 (row1 cI x.kids)), (2000, .box [.row false 83 (yv (upH H n v) T), G])]⟩) (fun i => ps.length - i) 0 (by simp) ?_ ?_
       · refine Ent.weak ?_ ?_ ?_ ?_ <;> simp +decide [zQ, yp, subT, subB, zl, zk, zm, St.get, look, vI, vB, vS, cI, cS, cB, zg, roI]
       · rintro i hi
         refine ze zf _ ?_
         by_cases h' : i < ps.length
         · have e : ((i : Int) < (ps.length : Int)) = True := by simp [h']
           have d1 := hno i h'
           simp +decide only [e, h', hpget i h', zq, d1, Int.natCast_nonneg, vB, vI, zh, hp1, hq1, go_sem, reduceAdd, reduceMul]
           refine ⟨i + 1, h', by omega, Ent.weak ?_ ?_ ?_ ?_⟩
           all_goals simp +decide [zQ, yp, subT, subB, zl, zk, zm, St.get, look, vI, vB, vS, cI, cS, cB, zg, roI, w64s (n := ps.length) h' (by omega)]
         · have hil : i = ps.length := by omega
           subst hil
           have e : ((ps.length : Int) < (ps.length : Int)) = False := by simp
           simp +decide only [e, vB, vI, zh, hp1, hq1, go_sem, reduceAdd, reduceMul]
           refine Ent.weak ?_ ?_ ?_ ?_
           all_goals simp +decide [zQ, yp, subT, subB, zl, zk, zm, St.get, look, vI, vB, vS, cI, cS, cB, zg, roI]
   · refine Tri.step zf ?_
     simp +decide only [zh, hp1, hq1, go_sem, reduceAdd, reduceMul]
     refine Tri.ent ?_ (Ent.own 12 3 12 (hp1 12 rfl))
     refine Tri.seq (Tri.seq (Tri.cut zf 2 ?_))
     simp +decide only [List.take_succ_cons, List.take_zero, zh, hp1, hq1, go_sem, reduceAdd, reduceMul]
     refine zgu ?_ (Ent.same hpk 44)
     simp +decide only [List.drop_succ_cons, List.drop_zero, zh, hp1, hq1, go_sem, reduceAdd, reduceMul]
     refine Tri.blk ?_
     refine Tri.loop (ι := Nat) (fun i => i <= x.kids.length) (fun i => ⟨65, [(0, .bp 2000 0), (2, .imm 107 (rows (zq true) ps)), (3, roI ks), (9, .bp 9 0), (12, .ref 12 [] i), (44, .ref 2500 [] x.kids.length), (45, vI x.kids.length), (46, vI i)], [(12, .row 3 (row1 cI (kdQ (inV N ps ks) x.kids i T).1)), (9, .box [.sc (.int .i64 x.kind), .sc (.int .i64 x.num), .sc (.string x.name), .sc v]), (2500, .row 3 (row1 cI x.kids)), (2000, .box [.row false 83 (yv (upH H n v) (kdQ (inV N ps ks) x.kids i T).2), G])]⟩) (fun i => x.kids.length - i) 0 (by simp) ?_ ?_
     · refine Ent.weak ?_ ?_ ?_ ?_ <;> simp +decide [zQ, yp, subT, subB, zl, zk, zm, St.get, look, vI, vB, vS, cI, cS, cB, zg, roI, zjQ, row1]
     · rintro i hi
       refine ze zf _ ?_
       have hql := zgd (inV N ps ks) x.kids T i hi
       obtain ⟨g1, g2⟩ := (hgrow i hi).len
       obtain ⟨g3, g4⟩ := hgl i hi
       by_cases h' : i < x.kids.length
       · have e : ((i : Int) < (x.kids.length : Int)) = True := by simp [h']
         have hqn := zbm (inV N ps ks) x.kids h' T
         have hpt := hpart i h'
         generalize kdQ (inV N ps ks) x.kids i T = q at hql g1 g2 g3 g4 hqn |-
         obtain ⟨ql, qs⟩ := q
         simp only at hql g1 g2 g3 g4 hqn |-
         have hcall := hrec v i h' qs g4 (by omega)
         unfold kdP at hqn
         simp only at hqn
         generalize inV N ps ks x.kids[i] qs = r at hqn hcall
         obtain ⟨ra, rs⟩ := r
         simp only at hqn hcall
         simp only [cI, roI] at hcall
         have hb1 : i + 1 <= 140737488355328 := by omega
         have hb2 : (i + 1) * 8 <= 140737488355328 := by omega
         have hsn := Zq cI ql ra
         simp only [cI] at hsn
         have hr := ziA cI x.kids h'
         simp only [cI] at hr
         simp +decide only [e, h', hql, hr, Int.natCast_nonneg, vB, vI, zh, hp1, hq1, go_sem, reduceAdd, reduceMul]
         refine yu hcall hp1 hf1 [(2000, 2000)] [] [(2000, 2000)] ⟨rfl, rfl, rfl, rfl⟩ (fun uf => ?_) ?_
         · simp +decide only [zh, hp1, hq1, go_sem, reduceAdd, reduceMul]
         simp +decide only [hql, hb1, hb2, hsn, zh, hp1, hq1, go_sem, reduceAdd, reduceMul]
         refine ⟨i + 1, h', by omega, Ent.weak ?_ ?_ ?_ ?_⟩
         all_goals simp +decide [zQ, yp, subT, subB, zl, zk, zm, St.get, look, vI, vB, vS, cI, cS, cB, zg, roI, hqn, hsn, hql, w64s (n := x.kids.length) h' (by omega)]
       have hil : i = x.kids.length := by omega
       subst hil
       have e : ((x.kids.length : Int) < (x.kids.length : Int)) = False := by simp
       rw [List.take_length] at g2
       generalize kdQ (inV N ps ks) x.kids x.kids.length T = q at hql g1 g2 g3 g4 heq |-
       obtain ⟨ql, qs⟩ := q
       simp only at hql g1 g2 g3 g4 heq |-
       subst heq
       simp +decide only [e, vB, vI, zh, hp1, hq1, go_sem, reduceAdd, reduceMul]
       refine Tri.step zf ?_
       simp +decide only [hql, zh, hp1, hq1, go_sem, reduceAdd, reduceMul]
       have hHq : upH H n v qs.length = none := by
         unfold upH
         rw [if_neg (by omega)]
         obtain ⟨E2, hE2⟩ := g4
         exact hH2 _ (by rw [hE2]; simp)
       have hsnoc := zkw (upH H n v) qs ⟨x.kind, x.num, x.name, ql⟩ hHq
       have hadd := zjp (yv (upH H n v) qs) G ⟨x.kind, x.num, x.name, ql⟩ (by rw [zh]; omega)
       rw [hsnoc, zh] at hadd
       have hEq : ∃ E, qs ++ [(⟨x.kind, x.num, x.name, ql⟩ : NodeD)] = N ++ E := by
         obtain ⟨E2, hE2⟩ := g4
         exact ⟨E2 ++ [⟨x.kind, x.num, x.name, ql⟩], by rw [hE2]; simp⟩
       have hfin := hbn v _ hEq
       have hgq2 := Yi (upH H n v) (T := qs ++ [⟨x.kind, x.num, x.name, ql⟩]) (i := n) (by simp; omega)
       simp only [zbh, kidD, hup] at hgq2
       refine Tri.lift 2501 9 [(0, 3)] rfl rfl (by simp) rfl (fun y hy => ?_)
       obtain ⟨v2, y2⟩ := y
       have n1 : ∀ k, (Value.int .i64 k = v2) = False := fun k => by obtain ⟨A, c, hy⟩ := hy; simp only at hy; rw [hy]; simp
       have n2 : ∀ k, (Value.string k = v2) = False := fun k => by obtain ⟨A, c, hy⟩ := hy; simp only at hy; rw [hy]; simp
       have hp2 := Cx.repin_pin hp1 (k := 2501) rfl (some (v2, y2))
       have hf2 := Cx.repin_full hf1 2501 (some (v2, y2))
       have hq2 : ∀ o, o ≠ 2501 -> o ≠ 2500 -> yZ o = true -> (C1.repin 2501 (some (v2, y2))).pin o = some (uf o, ub o) := fun o h1 ho hp => by rw [Cx.repin_other C1 h1]; exact hq1 o ho hp
       have hpk2 := Cx.repin_self C1 2501 (some (v2, y2))
       generalize C1.repin 2501 (some (v2, y2)) = C2 at hp2 hf2 hq2 hpk2 |-
       simp only [cI] at hadd
       refine Tri.seq (Tri.cut zf 2 ?_)
       simp +decide only [List.take_succ_cons, List.take_zero, zh, hp2, hq2, go_sem, reduceAdd, reduceMul]
       refine zgu ?_ (Ent.same hpk2 63)
       simp +decide only [List.drop_succ_cons, List.drop_zero, n1, n2, zh, hp2, hq2, go_sem, reduceAdd, reduceMul]
       refine zna hadd hp2 hf2 [(2001, 2501), (2000, 2000)] [(2000, 2000)] [(2001, 2501)] [(2000, 2000)] ⟨rfl, rfl, rfl, rfl, rfl⟩ (by rfl) (fun uf => ?_) ?_
       · simp +decide only [hql, zh, hp2, hq2, go_sem, reduceAdd, reduceMul]
       simp +decide only [hql, hfin, hgq2, zh, hp2, hq2, go_sem, reduceAdd, reduceMul]
       refine ze zf _ ?_
       simp +decide only [hql, hfin, hgq2, zh, hp2, hq2, go_sem, reduceAdd, reduceMul]
theorem zlT (N : List NodeD) (hD : Deep N) (ps : List ParamD) (ks : List Int) (hl : ks.length = ps.length) (hps : ps.length <= 1048576) (G : D) (n : Nat) : n < N.length -> InAt N ps ks G n := by
 induction n using Nat.strongRecOn with
 | ind n ih => exact fun hn => znv N hD ps ks hl hps G n hn (fun m hm => ih m hm (by omega))
theorem ziD (N : List NodeD) (hD : Deep N) (ps : List ParamD) (ks : List Int) (F : List FnD) (hl : ks.length = ps.length) (hps : ps.length <= 1048576) (n : Nat) (hn : n < N.length) (hT : N.length + szB N n <= 1048575) :
   SoundAt Tryz.prog 91 (fun uf => zu 0 [.ro (.bp 2000 0), .ro (.sc (.int .i64 n)), .ro (.imm 107 (rows (zq true) ps)), .ro (roI ks)]) [(2000, .box (za false ⟨N, F⟩))]
     (fun rs st => rs = [(false, [cI (inV N ps ks n N).1])] /\ xp st.ob [(2000, .box (za false ⟨(inV N ps ks n N).2, F⟩))]) := by
 have h := zlT N hD ps ks hl hps (.row false 104 (rows (fnC false) F)) n hn (fun _ => none) N (fun _ _ => rfl) (fun _ _ => rfl) ⟨[], by simp⟩ hT
 simp only [zbI] at h
 exact h
def zpJ (N : List NodeD) (ps : List ParamD) (ks : List Int) (n : Nat) : Prop := ∀ (T : List NodeD), T.length + szB N n <= 1048575 ->
 zw Tryz.prog 87 [.ro (.imm 83 (rows (zg true) N)), .ro (.sc (.int .i64 n)), .ro (.imm 107 (rows (zq true) ps)), .ro (roI ks), .mv 83 (rows (zg false) T)]
   (fun rs st => rs = [(false, [.row false 83 (rows (zg false) (inV N ps ks n T).2)]), (false, [cI (inV N ps ks n T).1])])
theorem zmr (N : List NodeD) (hD : Deep N) (hN : N.length <= 1048576) (ps : List ParamD) (ks : List Int) (hl : ks.length = ps.length) (hps : ps.length <= 1048576) (n : Nat) (hn : n < N.length) (ih : ∀ m, m < n -> zpJ N ps ks m) : zpJ N ps ks n := by
 intro T hT
 have heq := zjS hD ps ks hn T
 have hsz := zly hD hn
 have hkid := hD.kid hn
 have hfew := hD.few N[n] (List.getElem_mem hn)
 have hgrow := zbn (V := inV N ps ks) (z := szB N) N[n].kids (fun k hk T2 => by
   obtain ⟨q0, q1, q2⟩ := hkid k hk
   obtain ⟨m, rfl⟩ : ∃ m : Nat, k = m := ⟨k.toNat, by omega⟩
   exact zdV hD ps ks m (by omega) T2) T
 have hpart : ∀ i (hi : i < N[n].kids.length), sumN (szB N) (N[n].kids.take i) + szB N N[n].kids[i] <= sumN (szB N) N[n].kids := fun i hi => by
   have h1 := Zk (szB N) N[n].kids (i + 1)
   rw [List.take_succ_eq_append_getElem hi, zcG] at h1
   have : sumN (szB N) [N[n].kids[i]] = szB N N[n].kids[i] := by simp [sumN]
   omega
 have hrec : ∀ i (hi : i < N[n].kids.length), ∀ T2, T2.length + szB N N[n].kids[i] <= 1048575 -> zw Tryz.prog 87 [.ro (.imm 83 (rows (zg true) N)), .ro (.sc (.int .i64 N[n].kids[i])), .ro (.imm 107 (rows (zq true) ps)), .ro (roI ks), .mv 83 (rows (zg false) T2)]
     (fun rs st => rs = [(false, [.row false 83 (rows (zg false) (inV N ps ks N[n].kids[i] T2).2)]), (false, [cI (inV N ps ks N[n].kids[i] T2).1])]) := fun i hi T2 h2 => by
   obtain ⟨q0, q1, q2⟩ := hkid N[n].kids[i] (List.getElem_mem hi)
   have e : N[n].kids[i] = (N[n].kids[i].toNat : Int) := by omega
   rw [e] at h2
   have := ih N[n].kids[i].toNat q2 T2 h2
   rw [<- e] at this
   exact this
 have c1 : ((n : Int) < (N.length : Int)) = True := eq_true (by omega)
 have hx : (rows (zg true) N).getD n [] = zg true N[n] := zi _ _ hn
 have hpget : ∀ i (h : i < ps.length), (rows (zq true) ps).getD i [] = zq true ps[i] := fun i h => zi _ _ h
 generalize inV N ps ks n T = R at heq |-
 generalize szB N n = Z at hT hsz
 generalize N[n] = x at heq hsz hkid hfew hgrow hpart hx hrec
 unfold inK at heq
 refine zn (fn := Tryz.f87) (c := Tryz.f87.body.getD .skip) (res := [.tm 10, .tm 11]) (n := 82) zf (by kernel_rfl) (by rfl) (by kernel_rfl) (by rfl) (by rfl) (by simp [zu]) (fun uf ub C hpin hpin2 hfull => ?_)
 simp only [Tryz.f87, Option.getD_some]
 refine Tri.step zf ?_
 simp +decide only [zh, hpin, hpin2, go_sem, reduceAdd, reduceMul]
 refine Tri.step zf ?_
 simp +decide only [c1, hn, hx, zg, Int.natCast_nonneg, zh, hpin, hpin2, go_sem, reduceAdd, reduceMul]
 refine Tri.ent ?_ (Ent.frb hfull 12)
 cases hh : hitB ps x with
 | true =>
   rw [hh, if_pos rfl] at heq
   have h2 : (x.kind == 2) = true := (Bool.and_eq_true_iff.1 hh).1
   have hil : ps.findIdx (fun q => decide (q.name = x.name)) < ps.length := by
     rw [List.findIdx_lt_length]
     obtain ⟨q, hq, hqn⟩ := List.any_eq_true.1 (Bool.and_eq_true_iff.1 hh).2
     exact ⟨q, hq, hqn⟩
   have hkk : hitK ps ks x = ks[ps.findIdx (fun q => decide (q.name = x.name))]'(by omega) := by unfold hitK; rw [List.getD_eq_getElem?_getD, List.getElem?_eq_getElem (by omega), Option.getD_some]
   have hyes := List.findIdx_getElem (w := hil)
   have hno : ∀ i (h : i < ps.findIdx (fun q => decide (q.name = x.name))), decide ((ps[i]'(by omega)).name = x.name) = false := fun i h => by
     have := List.not_of_lt_findIdx h
     simpa using this
   rw [hkk] at heq
   subst heq
   obtain ⟨I, hI⟩ : ∃ I, ps.findIdx (fun q => decide (q.name = x.name)) = I := ⟨_, rfl⟩
   simp only [hI] at hil hyes hno |-
   have hks : ∀ j (h : j < ks.length), (row1 cI ks).getD j [] = [cI ks[j]] := fun j h => zt _ _ h
   have hil2 : I < ks.length := by omega
   refine Tri.step zf ?_
   simp +decide only [h2, zg, zh, hpin, hpin2, go_sem, reduceAdd, reduceMul]
   refine Tri.loop (ι := Nat) (fun i => i <= I) (fun i => ⟨82, [(2, .imm 107 (rows (zq true) ps)), (3, roI ks), (4, .ref 4 [] T.length), (12, .ip (zg true x) 0), (13, vI i)], [(4, .row 83 (rows (zg false) T))]⟩) (fun i => ps.length - i) 0 (by simp) ?_ ?_
   · refine Ent.weak ?_ ?_ ?_ ?_ <;> simp +decide [zQ, yp, subT, subB, zl, zk, zm, St.get, look, vI, vB, vS, cI, cS, cB, zg, roI]
   · rintro i hi
     have h' : i < ps.length := by omega
     have e : ((i : Int) < (ps.length : Int)) = True := by simp [h']
     refine ze zf _ ?_
     simp +decide only [e, h', Int.natCast_nonneg, vB, vI, zg, zh, hpin, hpin2, go_sem, reduceAdd, reduceMul]
     refine Tri.sched zf [(0, true), (1, true), (2, true), (3, true), (5, true), (4, true), (6, false), (7, false)] zS (by kernel_rfl) (fun C2 hC2 => ?_)
     have hp2 := zV hC2 hpin
     by_cases hiI : i = I
     · subst hiI
       have hcI : ((i : Int) < (ks.length : Int)) = True := eq_true (by omega)
       simp +decide only [e, h', hpget i h', zq, zg, hyes, Int.natCast_nonneg, vB, vI, zh, hp2, hpin, hpin2, go_sem, reduceAdd, reduceMul]
       refine Tri.sched zf [(0, true), (1, true), (2, true), (3, true), (5, true), (4, false), (6, false)] zS (by kernel_rfl) (fun C3 hC3 => ?_)
       have hp3 := zV hC3 hpin
       simp +decide only [e, h', hks i hil2, hil2, hcI, zg, Int.natCast_nonneg, vB, vI, zh, hp3, hpin, hpin2, go_sem, reduceAdd, reduceMul]
     · have d1 := hno i (by omega)
       simp +decide only [e, h', hpget i h', zq, zg, d1, Int.natCast_nonneg, vB, vI, zh, hp2, hpin, hpin2, go_sem, reduceAdd, reduceMul]
       refine ⟨i + 1, by omega, by omega, Ent.weak ?_ ?_ ?_ ?_⟩
       all_goals simp +decide [zQ, yp, subT, subB, zl, zk, zm, St.get, look, vI, vB, vS, cI, cS, cB, zg, roI, w64s (n := ps.length) h' (by omega)]
 | false =>
   rw [hh, if_neg (by decide)] at heq
   refine Tri.stop zf ⟨82, [(0, .imm 83 (rows (zg true) N)), (2, .imm 107 (rows (zq true) ps)), (3, roI ks), (4, .ref 4 [] T.length), (12, .ip (zg true x) 0)], [(4, .row 83 (rows (zg false) T))]⟩ ?_ ?_
   · cases h2 : x.kind == 2 with
     | false =>
       simp +decide only [h2, zg, zh, hpin, hpin2, go_sem, reduceAdd, reduceMul]
       refine Ent.weak ?_ ?_ ?_ ?_ <;> simp +decide [zQ, yp, subT, subB, zl, zk, zm, St.get, look, vI, vB, vS, cI, cS, cB, zg, roI]
     | true =>
       have hno : ∀ i (h : i < ps.length), decide (ps[i].name = x.name) = false := fun i h => by
         unfold hitB at hh
         rw [h2, Bool.true_and] at hh
         exact by simpa using List.any_eq_false.1 hh ps[i] (List.getElem_mem h)
       simp +decide only [h2, zg, zh, hpin, hpin2, go_sem, reduceAdd, reduceMul]
       refine Tri.loop (ι := Nat) (fun i => i <= ps.length) (fun i => ⟨82, [(0, .imm 83 (rows (zg true) N)), (2, .imm 107 (rows (zq true) ps)), (3, roI ks), (4, .ref 4 [] T.length), (12, .ip (zg true x) 0), (13, vI i)], [(4, .row 83 (rows (zg false) T))]⟩) (fun i => ps.length - i) 0 (by simp) ?_ ?_
       · refine Ent.weak ?_ ?_ ?_ ?_ <;> simp +decide [zQ, yp, subT, subB, zl, zk, zm, St.get, look, vI, vB, vS, cI, cS, cB, zg, roI]
       · rintro i hi
         refine ze zf _ ?_
         by_cases h' : i < ps.length
         · have e : ((i : Int) < (ps.length : Int)) = True := by simp [h']
           have d1 := hno i h'
           simp +decide only [e, h', Int.natCast_nonneg, vB, vI, zg, zh, hpin, hpin2, go_sem, reduceAdd, reduceMul]
           refine Tri.sched zf [(0, true), (1, true), (2, true), (3, true), (5, true), (4, true), (6, false), (7, false)] zS (by kernel_rfl) (fun C2 hC2 => ?_)
           have hp2 := zV hC2 hpin
           simp +decide only [e, h', hpget i h', zq, zg, d1, Int.natCast_nonneg, vB, vI, zh, hp2, hpin, hpin2, go_sem, reduceAdd, reduceMul]
           refine ⟨i + 1, h', by omega, Ent.weak ?_ ?_ ?_ ?_⟩
           all_goals simp +decide [zQ, yp, subT, subB, zl, zk, zm, St.get, look, vI, vB, vS, cI, cS, cB, zg, roI, w64s (n := ps.length) h' (by omega)]
         · have hil : i = ps.length := by omega
           subst hil
           have e : ((ps.length : Int) < (ps.length : Int)) = False := by simp
           simp +decide only [e, vB, vI, zh, hpin, hpin2, go_sem, reduceAdd, reduceMul]
           refine Ent.weak ?_ ?_ ?_ ?_
           all_goals simp +decide [zQ, yp, subT, subB, zl, zk, zm, St.get, look, vI, vB, vS, cI, cS, cB, zg, roI]
   · refine Tri.step zf ?_
     simp +decide only [zg, zh, hpin, hpin2, go_sem, reduceAdd, reduceMul]
     refine Tri.ent ?_ (Ent.nilr 14 3 3)
     refine Tri.step zf ?_
     simp +decide only [zg, zh, hpin, hpin2, go_sem, reduceAdd, reduceMul]
     refine Tri.loop (ι := Nat) (fun i => i <= x.kids.length) (fun i => ⟨82, [(0, .imm 83 (rows (zg true) N)), (2, .imm 107 (rows (zq true) ps)), (3, roI ks), (4, .ref 4 [] (kdQ (inV N ps ks) x.kids i T).2.length), (12, .ip (zg true x) 0), (14, .bp 14 0), (15, vI i)], [(4, .row 83 (rows (zg false) (kdQ (inV N ps ks) x.kids i T).2)), (14, .box [.sc (.int .i64 x.kind), .sc (.int .i64 x.num), .sc (.string x.name), .row false 3 (row1 cI (kdQ (inV N ps ks) x.kids i T).1)])]⟩) (fun i => x.kids.length - i) 0 (by simp) ?_ ?_
     · refine Ent.weak ?_ ?_ ?_ ?_ <;> simp +decide [zQ, yp, subT, subB, zl, zk, zm, St.get, look, vI, vB, vS, cI, cS, cB, zg, roI, zjQ, row1]
     · rintro i hi
       refine ze zf _ ?_
       have hql := zgd (inV N ps ks) x.kids T i hi
       obtain ⟨g1, g2⟩ := (hgrow i hi).len
       by_cases h' : i < x.kids.length
       · have e : ((i : Int) < (x.kids.length : Int)) = True := by simp [h']
         have hqn := zbm (inV N ps ks) x.kids h' T
         have hpt := hpart i h'
         generalize kdQ (inV N ps ks) x.kids i T = q at hql g1 g2 hqn |-
         obtain ⟨ql, qs⟩ := q
         simp only at hql g1 g2 hqn |-
         have hcall := hrec i h' qs (by omega)
         unfold kdP at hqn
         simp only at hqn
         generalize inV N ps ks x.kids[i] qs = r at hqn hcall
         obtain ⟨ra, rs⟩ := r
         simp only at hqn hcall
         simp only [cI, roI] at hcall
         have hb1 : i + 1 <= 140737488355328 := by omega
         have hb2 : (i + 1) * 8 <= 140737488355328 := by omega
         have hsn := Zq cI ql ra
         simp only [cI] at hsn
         simp +decide only [e, h', hql, zt _ _ h', zg, Int.natCast_nonneg, vB, vI, zh, hpin, hpin2, go_sem, reduceAdd, reduceMul]
         refine zd hcall hpin ?_
         simp +decide only [hql, hb1, hb2, hsn, zg, zh, hpin, hpin2, go_sem, reduceAdd, reduceMul]
         refine ⟨i + 1, h', by omega, Ent.weak ?_ ?_ ?_ ?_⟩
         all_goals simp +decide [zQ, yp, subT, subB, zl, zk, zm, St.get, look, vI, vB, vS, cI, cS, cB, zg, roI, hqn, hsn, hql, w64s (n := x.kids.length) h' (by omega)]
       have hil : i = x.kids.length := by omega
       subst hil
       have e : ((x.kids.length : Int) < (x.kids.length : Int)) = False := by simp
       rw [List.take_length] at g2
       generalize kdQ (inV N ps ks) x.kids x.kids.length T = q at hql g1 g2 heq |-
       obtain ⟨ql, qs⟩ := q
       simp only at hql g1 g2 heq |-
       subst heq
       have hb1 : qs.length + 1 <= 140737488355328 := by omega
       have hb2 : (qs.length + 1) * 56 <= 140737488355328 := by omega
       have hsn := XX qs ⟨x.kind, x.num, x.name, ql⟩
       simp only [cI] at hsn
       simp +decide only [e, hql, zg, vB, vI, zh, hpin, hpin2, go_sem, reduceAdd, reduceMul]
       refine Tri.seq (Tri.cut zf 1 ?_)
       simp +decide only [List.take_succ_cons, List.take_zero, zg, zh, hpin, hpin2, go_sem, reduceAdd, reduceMul]
       refine zla 4 rfl (fun A c => ?_)
       simp +decide only [List.drop_succ_cons, List.drop_zero, hql, hb1, hb2, hsn, zg, zh, hpin, hpin2, go_sem, reduceAdd, reduceMul]
       refine ze zf _ ?_
       simp +decide only [zh, hpin, hpin2, go_sem, reduceAdd, reduceMul]
theorem zhJ (N : List NodeD) (hD : Deep N) (hN : N.length <= 1048576) (ps : List ParamD) (ks : List Int) (hl : ks.length = ps.length) (hps : ps.length <= 1048576) (n : Nat) : n < N.length -> zpJ N ps ks n := by
 induction n using Nat.strongRecOn with
 | ind n ih => exact fun hn => zmr N hD hN ps ks hl hps n hn (fun m hm => ih m hm (by omega))
theorem zkG (l : List ParamD) : shLL (rows (zq false) l) = rows (zq true) l := by
 rw [yX]
 simp only [rows, List.map_map]
 apply List.map_congr_left
 intro x _
 simp [zq, shL, shD, cI, cS]
theorem zhB (l : List NodeD) : shLL (rows (zg false) l) = rows (zg true) l := by
 rw [yX]
 simp only [rows, List.map_map]
 apply List.map_congr_left
 intro x _
 simp [zg, shL, shD, cI, cS, xP]
theorem zmC (l : List FnD) : shLL (rows (fnC false) l) = rows (fnC true) l := by
 rw [yX]
 simp only [rows, List.map_map]
 apply List.map_congr_left
 intro x _
 have h := zkG x.params
 simp only [rows] at h
 simp [fnC, shL, shD, cI, cS, rows, h]
def inlF (p : ProgramD) (k : Int) : FnD := fAt p.fns (xb p.fns (nAt p.nodes k).name)
noncomputable def ZX (p : ProgramD) (x : NodeD) (f : FnD) : Bool := f.params.all (fun q => q.ty == 1) && (x.kids.all (fun kid => xm p.nodes true kid) && ((decide (0 <= f.ret) && decide ((nAt p.nodes f.body).kids.length = 0)) && xm p.nodes false f.ret))
def inlR (p : ProgramD) (k : Int) : Int × List NodeD := inV p.nodes (inlF p k).params (nAt p.nodes k).kids (inlF p k).ret p.nodes
def xD (p : ProgramD) (k : Int) : ProgramD := hgP k (inlR p k).1 ⟨(inlR p k).2, p.fns⟩
def ZY (p : ProgramD) (k : Int) : ProgramD := ⟨(inlR p k).2.set k.toNat (nAt (inlR p k).2 (inlR p k).1), p.fns⟩
noncomputable def yo (p : ProgramD) (fn k : Int) : Int := if ya p && inI fn 0 (p.fns.length - 1) then (if (fnNs p fn).contains k && (nAt p.nodes k).kind == 12 then (if ZX p (nAt p.nodes k) (inlF p k) then zaL (xD p k) else 4) else 3) else 1
noncomputable def inlP (p : ProgramD) (fn k : Int) : ProgramD := if ya p && inI fn 0 (p.fns.length - 1) then (if (fnNs p fn).contains k && (nAt p.nodes k).kind == 12 then (if ZX p (nAt p.nodes k) (inlF p k) then finP p (xD p k) else p) else p) else p
theorem zgm {p : ProgramD} {f k : Int} (h : (fnNs p f).contains k = true) : 0 <= k /\ k.toNat < p.nodes.length := by
 obtain ⟨i, hi, rfl⟩ := List.getElem_of_mem (List.contains_iff_mem.1 h)
 exact zmE p f hi
structure CallIs (p : ProgramD) (n j : Nat) : Prop where
 right : Right p
 few : ∀ m, m < p.nodes.length -> szB p.nodes m <= 360000
 hn : n < p.nodes.length
 hj : j < p.fns.length
 at_ : xb p.fns p.nodes[n].name = j
 kids : p.nodes[n].kids.length = p.fns[j].params.length
 body : 0 <= p.fns[j].body /\ p.fns[j].body.toNat < p.nodes.length
 ret : p.fns[j].ret < 0 \/ (0 <= p.fns[j].ret /\ p.fns[j].ret.toNat < p.nodes.length)
 params : p.fns[j].params.length <= 3
 kind : p.nodes[n].kind = 12
theorem zmR {p : ProgramD} (hR : ya p = true) {f : Nat} (hf : f < p.fns.length) {k : Int} (hk : (fnNs p f).contains k = true) (h12 : ((nAt p.nodes k).kind == 12) = true) : ∃ n j : Nat, k = n /\ CallIs p n j := by
 have hP := (zdl hR).1
 have hG := yw hP
 have h12 : (nAt p.nodes k).kind = 12 := by simpa using h12
 obtain ⟨k0, k1⟩ := zgm hk
 obtain ⟨n, rfl⟩ : ∃ n : Nat, k = n := ⟨k.toNat, by omega⟩
 have hn : n < p.nodes.length := by omega
 obtain ⟨g0, g1, g2⟩ := zmS hR hf (List.contains_iff_mem.1 hk) h12
 rw [zG hn] at g0 g1 g2 h12
 obtain ⟨j, hj⟩ : ∃ j : Nat, xb p.fns p.nodes[n].name = j := ⟨(xb p.fns p.nodes[n].name).toNat, by omega⟩
 rw [hj] at g1 g2
 have hjl : j < p.fns.length := by omega
 rw [yO hjl] at g2
 obtain ⟨b0, r0⟩ := xB (hG.fn j hjl)
 have hone := zpa hP
 exact ⟨n, j, rfl, hG, fun m hm => zlx hG.deep hone hG.few hm, hn, hjl, hj, g2, b0, r0, zaH (hG.fn j hjl), h12⟩
theorem zdT {p : ProgramD} {n j : Nat} (h : CallIs p n j) : inlF p n = p.fns[j]'h.hj := by
 unfold inlF
 rw [zG h.hn, h.at_, yO h.hj]
theorem zgh {p : ProgramD} {n j : Nat} (h : CallIs p n j) : inlR p n = inV p.nodes (p.fns[j]'h.hj).params (p.nodes[n]'h.hn).kids (p.fns[j]'h.hj).ret p.nodes := by
 unfold inlR
 rw [zdT h, zG h.hn]
theorem YC {p : ProgramD} {n j : Nat} (h : CallIs p n j) (hr : 0 <= (p.fns[j]'h.hj).ret) : grows p.nodes (inlR p n).2 360000 := by
 have hj := h.hj
 rw [zgh h]
 rcases h.ret with h0 | ⟨h0, h1⟩
 · omega
 · have h2 := zdV h.right.deep p.fns[j].params (p.nodes[n]'h.hn).kids p.fns[j].ret.toNat h1 p.nodes
   rw [show ((p.fns[j].ret.toNat : Nat) : Int) = p.fns[j].ret by omega] at h2
   refine h2.mono ?_
   have := h.few _ h1
   rwa [show ((p.fns[j].ret.toNat : Nat) : Int) = p.fns[j].ret by omega] at this
theorem ziV {p : ProgramD} {n j : Nat} (h : CallIs p n j) (hr : 0 <= (p.fns[j]'h.hj).ret) : 0 <= (inlR p n).1 /\ (inlR p n).1 < ((inlR p n).2.length : Int) /\ (inlR p n).1 ≠ (n : Int) /\ ∀ q ∈ (nAt (inlR p n).2 (inlR p n).1).kids, q ≠ (n : Int) := by
 have hj := h.hj
 have hn := h.hn
 have hg := YC h hr
 have hD := h.right.deep
 have hkid := hD.kid hn
 have key : (inlR p n).1 ∈ p.nodes[n].kids \/ ((p.nodes.length : Int) <= (inlR p n).1 /\ (inlR p n).1 < ((inlR p n).2.length : Int) /\ ∀ q ∈ (nAt (inlR p n).2 (inlR p n).1).kids, q ∈ p.nodes[n].kids \/ (p.nodes.length : Int) <= q) := by
   rw [zgh h]
   rcases h.ret with h0 | ⟨h0, h1⟩
   · omega
   · have h2 := (zql hD p.fns[j].params p.nodes[n].kids h.kids p.fns[j].ret.toNat h1 p.nodes).2
     rwa [show ((p.fns[j].ret.toNat : Nat) : Int) = p.fns[j].ret by omega] at h2
 generalize inlR p n = R at key hg |-
 obtain ⟨a, X⟩ := R
 simp only at key hg |-
 have hlen := hg.len
 rcases key with hk | ⟨g1, g2, g3⟩
 · obtain ⟨q0, q1, q2⟩ := hkid a hk
   obtain ⟨m, rfl⟩ : ∃ m : Nat, a = m := ⟨a.toNat, by omega⟩
   have hm : m < p.nodes.length := by omega
   refine ⟨q0, by omega, by omega, ?_⟩
   rw [(hg.get hm).2, zG hm]
   intro q hq
   have := hD.kid hm q hq
   omega
 · refine ⟨by omega, g2, by omega, fun q hq => ?_⟩
   rcases g3 q hq with hk | hk
   · have := hkid q hk; omega
   · omega
theorem zmA {p : ProgramD} {n j : Nat} (h : CallIs p n j) (hr : 0 <= (p.fns[j]'h.hj).ret) : YU (xD p n) = YU (ZY p n) := by
 obtain ⟨h1, h2, h3, h4⟩ := ziV h hr
 have hlen := (YC h hr).len
 have hn := h.hn
 unfold xD ZY
 refine zlS (X := (inlR p n).2) (F := p.fns) (k := n) (by omega) ⟨h1, h2⟩ h3 h4 (fun f hf => ?_)
 obtain ⟨i, hi, rfl⟩ := List.getElem_of_mem hf
 have hok := h.right.fn i hi
 obtain ⟨⟨b0, b1⟩, _⟩ := xB hok
 intro he
 unfold YE at hok
 simp only [Bool.and_eq_true] at hok
 have h5 := hok.2.2.2.2.1
 unfold zaJ at h5
 have h6 := (Bool.and_eq_true_iff.1 h5).2
 rw [he, zG hn, h.kind] at h6
 cases h6
theorem znQ {p : ProgramD} {n j : Nat} (h : CallIs p n j) (hr : 0 <= (p.fns[j]'h.hj).ret) : Yh (xD p n) = Yh (ZY p n) /\ zbv (xD p n) = zbv (ZY p n) := by
 have e := zmA h hr
 have e1 : zah (xD p n) = zah (ZY p n) := by unfold zah; rw [e]
 have e2 : Yh (xD p n) = Yh (ZY p n) := by unfold Yh; rw [e1, e]
 exact ⟨e2, by unfold zbv; rw [e1, e2]⟩
theorem zbU {p : ProgramD} {n j : Nat} (h : CallIs p n j) (hr : 0 <= (p.fns[j]'h.hj).ret) : (inlR p n).2.length <= 360300 /\ ∀ x ∈ (inlR p n).2, x.kids.length <= 12 := by
 have hg := YC h hr
 have hlen := hg.len
 have hfew := h.right.few
 refine ⟨by omega, fun x hx => ?_⟩
 obtain ⟨E, hE, _, hk⟩ := hg
 rw [hE] at hx
 rcases List.mem_append.1 hx with hx | hx
 · exact h.right.deep.few x hx
 · exact hk x hx
theorem zmz {p : ProgramD} {n j : Nat} (h : CallIs p n j) (hr : 0 <= (p.fns[j]'h.hj).ret) (hpl : ∀ f ∈ p.fns, f.params.length <= 1048576) : (xD p n).fns.length <= 1048576 /\ (xD p n).nodes.length <= 1048576 /\ (∀ x ∈ (xD p n).nodes, x.kids.length <= 1048576) /\ ∀ f ∈ (xD p n).fns, f.params.length <= 1048576 := by
 obtain ⟨h1, h2⟩ := zbU h hr
 have hfns := h.right.fns
 unfold xD hgP
 refine ⟨by simp; omega, by rw [YD]; show (inlR p n).2.length <= _; omega, fun x hx => ?_, fun f hf => ?_⟩
 · obtain ⟨i, hi, rfl⟩ := List.getElem_of_mem hx
   simp only at hi |-
   have hi2 : i < (inlR p n).2.length := by rw [YD] at hi; exact hi
   rw [ziX _ _ _ hi2]
   have := h2 _ (List.getElem_mem hi2)
   simp [hgX]; omega
 · simp only [List.mem_map] at hf
   obtain ⟨g, hg, rfl⟩ := hf
   have := hpl g hg
   unfold hgR
   split <;> exact this
theorem zeO (p : ProgramD) (x : NodeD) (hf : p.fns.length <= 1048576) (hn : p.nodes.length <= 1048576) (hk : ∀ x ∈ p.nodes, x.kids.length <= 1048576) (hxk : x.kids.length <= 1048576) (j : Nat) (hj : xb p.fns x.name = j) (hjl : j < p.fns.length) (hpl : p.fns[j].params.length <= 1048576) (hb : 0 <= p.fns[j].body /\ p.fns[j].body.toNat < p.nodes.length) :
   zw Tryz.prog 89 [.ro (zb p), .ro (zJ x)] (fun rs st => rs = [(false, [cB (ZX p x p.fns[j])])]) := by
 have hat := Zo p x.name hf
 rw [hj] at hat
 have hst := fun k => zgU p k hn hk
 have hqu := zhm p p.fns[j].ret hn hk
 have c1 : ((j : Int) < (p.fns.length : Int)) = True := eq_true (by omega)
 have hx : (rows (fnC true) p.fns).getD j [] = fnC true p.fns[j] := zi _ _ hjl
 obtain ⟨b, hbe⟩ : ∃ b : Nat, p.fns[j].body = b := ⟨p.fns[j].body.toNat, by omega⟩
 have hbl : b < p.nodes.length := by rw [hbe] at hb; omega
 have c2 : ((b : Int) < (p.nodes.length : Int)) = True := eq_true (by omega)
 have hxb : (rows (zg true) p.nodes).getD b [] = zg true p.nodes[b] := zi _ _ hbl
 unfold ZX
 rw [hbe, zG hbl]
 generalize p.fns[j] = f at hx hpl hqu hbe |-
 generalize p.nodes[b] = y at hxb |-
 simp only [zb, cI, cB] at hat hst hqu
 refine zn (fn := Tryz.f89) (c := Tryz.f89.body.getD .skip) (res := [.tm 4]) (n := 61) zf (by kernel_rfl) (by rfl) (by kernel_rfl) (by rfl) (by rfl) (by simp [zu]) (fun uf ub C hpin hpin2 hfull => ?_)
 simp only [Tryz.f89, Option.getD_some]
 refine Tri.step zf ?_
 simp +decide only [zJ, zb, za, hpin, go_sem, reduceAdd, reduceMul]
 refine Tri.ent ?_ (Ent.frb hfull 2)
 refine Tri.ent ?_ (Ent.frb hfull 3)
 refine Tri.stop zf ⟨61, [(2, .ip (za true p) 0), (3, .ip (zg true x) 0), (5, .bp 5 0)], [(5, .box (fnC true f))]⟩ ?_ ?_
 · refine Tri.fork zf (.one 0 true (.one 3 true (.one 1 true (.one 2 true (.one 4 true (.two 5 (.one 6 true (.one 7 true (.one 8 false (.one 9 false .done)))) 8 (.one 5 false (.one 6 false (.one 7 false (.one 9 false .done)))))))))) zS (by kernel_rfl) (fun C2 hC2 => ?_)
   have hp2 := zV hC2 hpin
   simp +decide only [zJ, zb, za, hp2, hpin, go_sem, reduceAdd, reduceMul]
   refine ⟨zd hat hp2 ?_, zd hat hp2 ?_⟩
   all_goals
     simp +decide only [c1, hjl, hx, fnC, Int.natCast_nonneg, zJ, zb, za, hp2, hpin, go_sem, reduceAdd, reduceMul]
     refine Ent.weak ?_ ?_ ?_ ?_ <;> simp +decide [zQ, yp, subT, subB, zl, zk, zm, St.get, look, vI, vB, vS, cI, cS, cB, zg, fnC, zq, za, roI]
 refine Tri.ent ?_ (Ent.frb hfull 5)
 have hpget : ∀ i (h : i < f.params.length), (rows (zq true) f.params).getD i [] = zq true f.params[i] := fun i h => zi _ _ h
 refine Tri.seq ?_
 refine Tri.step zf ?_
 simp +decide only [fnC, zJ, zb, za, hpin, go_sem, reduceAdd, reduceMul]
 refine Tri.blk ?_
 refine Tri.loop (ι := Nat) (fun i => i <= f.params.length /\ (f.params.take i).all (fun q => q.ty == 1) = true) (fun i => ⟨61, [(2, .ip (za true p) 0), (3, .ip (zg true x) 0), (5, .ip (fnC true f) 0), (19, .imm 107 (rows (zq true) f.params)), (20, vI f.params.length), (21, vI i)], []⟩) (fun i => f.params.length - i) 0 (by simp) ?_ ?_
 · refine Ent.weak ?_ ?_ ?_ ?_ <;> simp +decide [zQ, yp, subT, subB, zl, zk, zm, St.get, look, vI, vB, vS, cI, cS, cB, zg, fnC, zq, za, roI]
 rintro i ⟨hi, hal⟩
 refine ze zf _ ?_
 by_cases h' : i < f.params.length
 · have e : ((i : Int) < (f.params.length : Int)) = True := by simp [h']
   cases h1 : f.params[i].ty == 1 with
   | false =>
     have hall : f.params.all (fun q => q.ty == 1) = false := Zw h' h1
     simp +decide only [e, h', hpget i h', h1, bne, hall, fnC, zq, Int.natCast_nonneg, vB, vI, zJ, zb, za, hpin, go_sem, reduceAdd, reduceMul]
   | true =>
     have hnx := zaf h' hal h1
     simp +decide only [e, h', hpget i h', h1, bne, fnC, zq, Int.natCast_nonneg, vB, vI, zJ, zb, za, hpin, go_sem, reduceAdd, reduceMul]
     refine ⟨i + 1, ⟨h', hnx⟩, by omega, Ent.weak ?_ ?_ ?_ ?_⟩
     all_goals simp +decide [zQ, yp, subT, subB, zl, zk, zm, St.get, look, vI, vB, vS, cI, cS, cB, zg, fnC, zq, za, roI, w64s (n := f.params.length) h' (by omega)]
 have hil : i = f.params.length := by omega
 subst hil
 have e : ((f.params.length : Int) < (f.params.length : Int)) = False := by simp
 rw [List.take_length] at hal
 rw [hal, Bool.true_and]
 simp +decide only [e, fnC, zg, vB, vI, zJ, zb, za, hpin, go_sem, reduceAdd, reduceMul]
 refine Tri.seq ?_
 refine Tri.step zf ?_
 simp +decide only [fnC, zg, zJ, zb, za, hpin, go_sem, reduceAdd, reduceMul]
 refine Tri.blk ?_
 refine Tri.loop (ι := Nat) (fun i => i <= x.kids.length /\ (x.kids.take i).all (fun kid => xm p.nodes true kid) = true) (fun i => ⟨61, [(2, .ip (za true p) 0), (3, .ip (zg true x) 0), (5, .ip (fnC true f) 0), (30, roI x.kids), (31, vI x.kids.length), (32, vI i)], []⟩) (fun i => x.kids.length - i) 0 (by simp) ?_ ?_
 · refine Ent.weak ?_ ?_ ?_ ?_ <;> simp +decide [zQ, yp, subT, subB, zl, zk, zm, St.get, look, vI, vB, vS, cI, cS, cB, zg, fnC, zq, za, roI]
 rintro i ⟨hi, hkl⟩
 refine ze zf _ ?_
 by_cases h' : i < x.kids.length
 · have e : ((i : Int) < (x.kids.length : Int)) = True := by simp [h']
   have hsc := hst x.kids[i]
   simp +decide only [e, h', zt _ _ h', zg, Int.natCast_nonneg, vB, vI, zJ, zb, za, hpin, go_sem, reduceAdd, reduceMul]
   refine zd hsc hpin ?_
   cases h1 : xm p.nodes true x.kids[i] with
   | false =>
     have hall : x.kids.all (fun kid => xm p.nodes true kid) = false := Zw h' h1
     simp +decide only [hall, zJ, zb, za, hpin, go_sem, reduceAdd, reduceMul]
   | true =>
     have hnx := zaf h' hkl h1
     simp +decide only [zg, vB, vI, zJ, zb, za, hpin, go_sem, reduceAdd, reduceMul]
     refine ⟨i + 1, ⟨h', hnx⟩, by omega, Ent.weak ?_ ?_ ?_ ?_⟩
     all_goals simp +decide [zQ, yp, subT, subB, zl, zk, zm, St.get, look, vI, vB, vS, cI, cS, cB, zg, fnC, zq, za, roI, w64s (n := x.kids.length) h' (by omega)]
 have hil : i = x.kids.length := by omega
 subst hil
 have e : ((x.kids.length : Int) < (x.kids.length : Int)) = False := by simp
 rw [List.take_length] at hkl
 rw [hkl, Bool.true_and]
 simp +decide only [e, fnC, zg, vB, vI, zJ, zb, za, hpin, go_sem, reduceAdd, reduceMul]
 refine Tri.step zf ?_
 have hfin : ∀ c : Bool, c = decide (y.kids.length = 0) -> ((y.kids.length : Int) == 0) = c := fun c hc => by
   rw [hc]
   by_cases h : y.kids.length = 0
   · simp [h]
   · have h2 : (y.kids.length : Int) ≠ 0 := by omega
     simp [h, h2]
 cases hy : decide (y.kids.length = 0) with
 | false =>
   have hy2 := hfin false hy.symm
   by_cases h0 : 0 <= f.ret
   · have z0 : (0 <= f.ret) = True := eq_true h0
     simp +decide only [z0, hy2, hbe, c2, hbl, hxb, ge_iff_le, fnC, zg, Int.natCast_nonneg, zJ, zb, za, hpin, go_sem, reduceAdd, reduceMul]
     refine ze zf _ ?_
     simp +decide only [zJ, zb, za, hpin, go_sem, reduceAdd, reduceMul]
   · have z0 : (0 <= f.ret) = False := eq_false h0
     simp +decide only [z0, hy2, hbe, c2, hbl, hxb, ge_iff_le, fnC, zg, Int.natCast_nonneg, zJ, zb, za, hpin, go_sem, reduceAdd, reduceMul]
     refine ze zf _ ?_
     simp +decide only [zJ, zb, za, hpin, go_sem, reduceAdd, reduceMul]
 | true =>
   have hy2 := hfin true hy.symm
   by_cases h0 : 0 <= f.ret
   · have z0 : (0 <= f.ret) = True := eq_true h0
     simp +decide only [z0, hy2, hbe, c2, hbl, hxb, ge_iff_le, fnC, zg, Int.natCast_nonneg, zJ, zb, za, hpin, go_sem, reduceAdd, reduceMul]
     refine zd hqu hpin ?_
     simp +decide only [zJ, zb, za, hpin, go_sem, reduceAdd, reduceMul]
     refine ze zf _ ?_
     simp +decide only [z0, zJ, zb, za, hpin, go_sem, reduceAdd, reduceMul]
   · have z0 : (0 <= f.ret) = False := eq_false h0
     simp +decide only [z0, hy2, hbe, c2, hbl, hxb, ge_iff_le, fnC, zg, Int.natCast_nonneg, zJ, zb, za, hpin, go_sem, reduceAdd, reduceMul]
     refine ze zf _ ?_
     simp +decide only [zJ, zb, za, hpin, go_sem, reduceAdd, reduceMul]
theorem zbT (p : ProgramD) (fn k : Int) (hf : p.fns.length <= 1048576) (hn : p.nodes.length <= 1048576) (hk : ∀ x ∈ p.nodes, x.kids.length <= 1048576) (hpl : ∀ f ∈ p.fns, f.params.length <= 1048576) :
   zw Tryz.prog 29 [.ro (zb p), .ro (.sc (.int .i64 fn)), .ro (.sc (.int .i64 k))] (fun rs st => rs = [(true, za false (inlP p fn k)), (false, [cI (yo p fn k)])]) := by
 have w1 : IntKind.i64.wrap ((p.fns.length : Int) - 1) = (p.fns.length : Int) - 1 := w64 (by omega) (by omega)
 have htr := Yu p hf hn hk hpl
 have hcp := YH p hf hn hk hpl
 have hfs := zgn p fn hf hn hk
 have hll := zee p fn
 have hhas := Zu (fnNs p fn) k (by omega)
 simp only [zb, za] at htr hcp hfs
 simp only [roI] at hhas
 refine zn (fn := Tryz.f29) (c := Tryz.f29.body.getD .skip) (res := [.ce 6 36, .tm 7]) (n := 79) zf (by kernel_rfl) (by rfl) (by kernel_rfl) (by rfl) (by rfl) (by simp [zu]) (fun uf ub C hpin hpin2 hfull => ?_)
 simp only [Tryz.f29, Option.getD_some]
 refine Tri.step zf ?_
 simp +decide only [zJ, zb, za, hpin, go_sem, reduceAdd, reduceMul]
 refine Tri.ent ?_ (Ent.frb hfull 3)
 refine Tri.step zf ?_
 simp +decide only [zJ, zb, za, hpin, go_sem, reduceAdd, reduceMul]
 refine zd htr hpin ?_
 cases hR : ya p with
 | false =>
   have e1 : inlP p fn k = p := by unfold inlP; rw [hR]; rfl
   have e2 : yo p fn k = 1 := by unfold yo; rw [hR]; rfl
   simp +decide only [e1, e2, zJ, zb, za, hpin, go_sem, reduceAdd, reduceMul]
   refine zd hcp hpin ?_
   simp +decide only [e1, e2, zJ, zb, za, hpin, go_sem, reduceAdd, reduceMul]
 | true =>
 simp +decide only [w1, zJ, zb, za, hpin, go_sem, reduceAdd, reduceMul]
 refine zd (in' fn 0 (p.fns.length - 1)) hpin ?_
 cases h0 : inI fn 0 (p.fns.length - 1) with
 | false =>
   have e1 : inlP p fn k = p := by unfold inlP; rw [hR, h0]; rfl
   have e2 : yo p fn k = 1 := by unfold yo; rw [hR, h0]; rfl
   simp +decide only [e1, e2, zJ, zb, za, hpin, go_sem, reduceAdd, reduceMul]
   refine zd hcp hpin ?_
   simp +decide only [e1, e2, zJ, zb, za, hpin, go_sem, reduceAdd, reduceMul]
 | true =>
 have hr := zA h0
 simp +decide only [zJ, zb, za, hpin, go_sem, reduceAdd, reduceMul]
 refine Tri.step zf ?_
 simp +decide only [zJ, zb, za, hpin, go_sem, reduceAdd, reduceMul]
 refine zd hfs hpin ?_
 simp +decide only [zJ, zb, za, hpin, go_sem, reduceAdd, reduceMul]
 refine zd hhas hpin ?_
 cases hhk : (fnNs p fn).contains k with
 | false =>
   have e1 : inlP p fn k = p := by unfold inlP; rw [hR, h0, hhk]; rfl
   have e2 : yo p fn k = 3 := by unfold yo; rw [hR, h0, hhk]; rfl
   rcases YS p.nodes k.toNat with ⟨x, hxk⟩ | hxk
   all_goals
     simp +decide only [e1, e2, hxk, zg, zJ, zb, za, hpin, go_sem, reduceAdd, reduceMul]
     refine zd hcp hpin ?_
     simp +decide only [e1, e2, zJ, zb, za, hpin, go_sem, reduceAdd, reduceMul]
 | true =>
 obtain ⟨k0, k1⟩ := zgm hhk
 have z0 : (0 <= k) = True := eq_true k0
 have z1 : (k < (p.nodes.length : Int)) = True := eq_true (by omega)
 have hxk : (rows (zg true) p.nodes).getD k.toNat [] = zg true p.nodes[k.toNat] := zi _ _ k1
 have hnk : nAt p.nodes k = p.nodes[k.toNat] := by have := zG k1; rwa [show ((k.toNat : Nat) : Int) = k by omega] at this
 cases h12 : (nAt p.nodes k).kind == 12 with
 | false =>
   have h13 := h12
   rw [hnk] at h13
   have e1 : inlP p fn k = p := by unfold inlP; rw [hR, h0, hhk, h12]; rfl
   have e2 : yo p fn k = 3 := by unfold yo; rw [hR, h0, hhk, h12]; rfl
   simp +decide only [e1, e2, z0, z1, k1, hxk, h13, bne, zg, zJ, zb, za, hpin, go_sem, reduceAdd, reduceMul]
   refine zd hcp hpin ?_
   simp +decide only [e1, e2, zJ, zb, za, hpin, go_sem, reduceAdd, reduceMul]
 | true =>
 have h13 := h12
 rw [hnk] at h13
 obtain ⟨f, rfl⟩ : ∃ f : Nat, fn = f := ⟨fn.toNat, by omega⟩
 have hfl : f < p.fns.length := by omega
 obtain ⟨n, j, rfl, hC⟩ := zmR hR hfl hhk h12
 have hnl := hC.hn
 have hjl := hC.hj
 have hplj := hpl p.fns[j] (List.getElem_mem hjl)
 have hcan := zeO p p.nodes[n] hf hn hk (hk _ (List.getElem_mem hnl)) j hC.at_ hjl hplj hC.body
 simp only [zb, zJ, roI, cB] at hcan
 simp only [Int.toNat_natCast] at h13 hxk k1
 have hat := Zo p p.nodes[n].name hf
 rw [hC.at_] at hat
 simp only [zb, cI] at hat
 simp +decide only [z0, z1, k1, hxk, h13, bne, zg, zJ, zb, za, hpin, go_sem, reduceAdd, reduceMul]
 refine Tri.step zf ?_
 simp +decide only [z0, z1, k1, hxk, zg, zJ, zb, za, hpin, go_sem, reduceAdd, reduceMul]
 refine Tri.ent ?_ (Ent.frb hfull 8)
 refine Tri.step zf ?_
 simp +decide only [zg, zJ, zb, za, hpin, go_sem, reduceAdd, reduceMul]
 refine zd hcan hpin ?_
 cases hW : ZX p p.nodes[n] p.fns[j] with
 | false =>
   have hW2 : ZX p (nAt p.nodes (n : Int)) (inlF p n) = false := by rw [zdT hC, zG hnl]; exact hW
   have e1 : inlP p f n = p := by unfold inlP; rw [hR, h0, hhk, h12, hW2]; rfl
   have e2 : yo p f n = 4 := by unfold yo; rw [hR, h0, hhk, h12, hW2]; rfl
   simp +decide only [e1, e2, zJ, zb, za, hpin, go_sem, reduceAdd, reduceMul]
   refine zd hcp hpin ?_
   simp +decide only [e1, e2, zJ, zb, za, hpin, go_sem, reduceAdd, reduceMul]
 | true =>
 have hW2 : ZX p (nAt p.nodes (n : Int)) (inlF p n) = true := by rw [zdT hC, zG hnl]; exact hW
 have e1 : inlP p f n = finP p (xD p n) := by unfold inlP; rw [hR, h0, hhk, h12, hW2]; rfl
 have e2 : yo p f n = zaL (xD p n) := by unfold yo; rw [hR, h0, hhk, h12, hW2]; rfl
 rw [e1, e2]
 have hret : 0 <= p.fns[j].ret := by
   unfold ZX at hW
   simp only [Bool.and_eq_true, decide_eq_true_eq] at hW
   exact hW.2.2.1.1
 have hRe := zgh hC
 obtain ⟨a0, a1, a2, a3⟩ := ziV hC hret
 obtain ⟨s1, s2⟩ := zbU hC hret
 obtain ⟨q1, q2, q3, q4⟩ := zmz hC hret hpl
 have hlen := (YC hC hret).len
 obtain ⟨r, hre⟩ : ∃ r : Nat, p.fns[j].ret = r := ⟨p.fns[j].ret.toNat, by omega⟩
 have hrl : r < p.nodes.length := by
   rcases hC.ret with h | ⟨_, h⟩
   · omega
   · rw [hre] at h; exact h
 have hszr := hC.few r hrl
 have hput := ziD p.nodes hC.right.deep p.fns[j].params p.nodes[n].kids p.fns hC.kids hplj r hrl (by have := hC.right.few; omega)
 rw [<- hre, <- hRe] at hput
 have hxj : (rows (fnC true) p.fns).getD j [] = fnC true p.fns[j] := zi _ _ hjl
 have hcj : ((j : Int) < (p.fns.length : Int)) = True := eq_true (by omega)
 have hhg := ziY ⟨(inlR p n).2, p.fns⟩ n (inlR p n).1 hf (by show (inlR p n).2.length <= _; omega) (fun x hx => by have := s2 x hx; omega)
 have hfin := zeJ p (xD p n) hf hn hk hpl q1 q2 q3 q4
 have hout : xD p n = hgP n (inlR p n).1 ⟨(inlR p n).2, p.fns⟩ := rfl
 rw [<- hout] at hhg
 generalize xD p n = O at hhg hfin |-
 generalize inlR p n = R at hput hhg
 obtain ⟨ra, rx⟩ := R
 generalize p.fns[j] = g at hput hxj hre |-
 generalize p.nodes[n] = y at hput hat |-
 simp only [zb, za, roI, cI] at hput hhg hfin
 simp +decide only [zJ, zb, za, hpin, go_sem, reduceAdd, reduceMul]
 refine Tri.step zf ?_
 simp +decide only [zg, zJ, zb, za, hpin, go_sem, reduceAdd, reduceMul]
 refine zd hcp hpin ?_
 simp +decide only [zg, zJ, zb, za, hpin, go_sem, reduceAdd, reduceMul]
 refine Tri.stop zf ⟨79, [(2, vI n), (3, .ip (za true p) 0), (6, .bp 6 0), (8, .ip (zg true y) 0), (9, .bp 9 0), (10, .bp 10 0)], [(6, .box [.sc (.slice none 0 0), .sc (.slice none 0 0)]), (9, .box (za false p)), (10, .box (fnC true g))]⟩ ?_ ?_
 · refine Tri.fork zf (.one 0 true (.one 3 true (.one 1 true (.one 2 true (.one 4 true (.two 5 (.one 6 true (.one 7 true (.one 8 false (.one 9 false .done)))) 8 (.one 5 false (.one 6 false (.one 7 false (.one 9 false .done)))))))))) zS (by kernel_rfl) (fun C2 hC2 => ?_)
   have hp2 := zV hC2 hpin
   simp +decide only [zg, zJ, zb, za, hp2, hpin, go_sem, reduceAdd, reduceMul]
   refine ⟨zd hat hp2 ?_, zd hat hp2 ?_⟩
   all_goals
     simp +decide only [hcj, hjl, hxj, fnC, Int.natCast_nonneg, zJ, zb, za, hp2, hpin, go_sem, reduceAdd, reduceMul]
     refine Ent.weak ?_ ?_ ?_ ?_ <;> simp +decide [zQ, yp, subT, subB, zl, zk, zm, St.get, look, vI, vB, vS, cI, cS, cB, zg, fnC, zq, za, roI]
 refine Tri.ent ?_ (Ent.frb hfull 10)
 refine Tri.step zf ?_
 simp +decide only [hre, fnC, zg, vI, zJ, zb, za, hpin, go_sem, reduceAdd, reduceMul]
 refine yu hput hpin hfull [(2000, 9)] [] [(2000, 9)] ⟨rfl, rfl, rfl, rfl⟩ (fun uf => ?_) ?_
 · simp +decide only [hre, fnC, zg, zJ, zb, za, hpin, go_sem, reduceAdd, reduceMul]
 simp +decide only [fnC, zg, zJ, zb, za, hpin, go_sem, reduceAdd, reduceMul]
 refine Tri.step zf ?_
 simp +decide only [fnC, zg, zJ, zb, za, hpin, go_sem, reduceAdd, reduceMul]
 refine yu hhg hpin hfull [(2000, 9)] [] [(2000, 9)] ⟨rfl, rfl, rfl, rfl⟩ (fun uf => ?_) ?_
 · simp +decide only [fnC, zg, zJ, zb, za, hpin, go_sem, reduceAdd, reduceMul]
 simp +decide only [fnC, zg, zJ, zb, za, hpin, go_sem, reduceAdd, reduceMul]
 refine Tri.ent ?_ (Ent.frb hfull 9)
 refine Tri.step zf ?_
 simp +decide only [zhB, zmC, zJ, zb, za, hpin, go_sem, reduceAdd, reduceMul]
 refine zd hfin hpin ?_
 simp +decide only [zJ, zb, za, hpin, go_sem, reduceAdd, reduceMul]
 refine ze zf _ ?_
 simp +decide only [zJ, zb, za, hpin, go_sem, reduceAdd, reduceMul]
end Go.Proofs.YtjjigphfjclofaaGreatDoor.AW
