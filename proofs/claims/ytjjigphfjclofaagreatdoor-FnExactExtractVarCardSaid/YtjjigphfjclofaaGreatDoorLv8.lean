/- What the statements of this set lean on, part 8. No condition beyond those named. -/
import Derived.Test.YtjjigphfjclofaaGreatDoorLv7
namespace Go.Proofs.YtjjigphfjclofaaGreatDoor.AW
open Go.RowKit
open Nat (reduceAdd reduceMul)
set_option maxHeartbeats 8000000
set_option maxRecDepth 100000
set_option linter.unusedSimpArgs false
set_option linter.unusedVariables false
noncomputable def zba (p : ProgramD) (fn : Int) : Bool := yx p && (inI fn 0 (p.fns.length - 1) && Xl p fn)
noncomputable def zeS (p : ProgramD) (fn : Int) : List VarD := if zba p fn then yd p fn else []
theorem zlv (p : ProgramD) (fn : Int) (hf : p.fns.length <= 1048576) (hn : p.nodes.length <= 1048576) (hk : ∀ x ∈ p.nodes, x.kids.length <= 1048576) (hpl : ∀ f ∈ p.fns, f.params.length <= 1048576) :
   zw Tryz.prog 117 [.ro (zd p), .ro (.sc (.int .i64 fn))] (fun rs st => rs = [(false, [.row false 96 (rows (varC false) (zeS p fn))]), (false, [cB (zba p fn)])]) := by
 have e0 : rows (varC false) ([] : List VarD) = [] := rfl
 have w1 : IntKind.i64.wrap ((p.fns.length : Int) - 1) = (p.fns.length : Int) - 1 := w64 (by omega) (by omega)
 have hnr := Zt p hf hn hk hpl
 unfold zeS zba
 cases hR : yx p with
 | true =>
   cases h0 : inI fn 0 (p.fns.length - 1) with
   | true =>
     have hr := zx h0
     obtain ⟨f, rfl⟩ : ∃ f : Nat, fn = f := ⟨fn.toNat, by omega⟩
     have := zcj p hR f (by omega) hf hn hk hpl
     cases hB : Xl p f with
     | true => rw [hB] at this; simpa using this
     | false => rw [hB] at this; simpa [e0] using this
   | false =>
     rw [hR] at hnr
     simp only [zd] at hnr
     refine zm (fn := Tryz.f117) (c := Tryz.f117.body.getD .skip) (res := [.tm 4, .tm 5]) (n := 35) zg (by kernel_rfl) (by rfl) (by kernel_rfl) (by rfl) (by rfl) (by simp [zq]) (fun uf ub C hpin hpin2 hfull => ?_)
     simp only [Tryz.f117, Option.getD_some]
     refine Tri.step zg ?_
     simp +decide only [zd, za, hpin, go_sem, reduceAdd, reduceMul]
     refine Tri.ent ?_ (Ent.frb hfull 2)
     refine Tri.step zg ?_
     simp +decide only [zd, za, hpin, go_sem, reduceAdd, reduceMul]
     refine ze hnr hpin ?_
     simp +decide only [w1, zd, za, hpin, go_sem, reduceAdd, reduceMul]
     refine ze (in' fn 0 (p.fns.length - 1)) hpin ?_
     simp +decide only [h0, e0, zd, za, hpin, go_sem, reduceAdd, reduceMul]
 | false =>
   rw [hR] at hnr
   simp only [zd] at hnr
   refine zm (fn := Tryz.f117) (c := Tryz.f117.body.getD .skip) (res := [.tm 4, .tm 5]) (n := 35) zg (by kernel_rfl) (by rfl) (by kernel_rfl) (by rfl) (by rfl) (by simp [zq]) (fun uf ub C hpin hpin2 hfull => ?_)
   simp only [Tryz.f117, Option.getD_some]
   refine Tri.step zg ?_
   simp +decide only [zd, za, hpin, go_sem, reduceAdd, reduceMul]
   refine Tri.ent ?_ (Ent.frb hfull 2)
   refine Tri.step zg ?_
   simp +decide only [zd, za, hpin, go_sem, reduceAdd, reduceMul]
   refine ze hnr hpin ?_
   simp +decide only [e0, zd, za, hpin, go_sem, reduceAdd, reduceMul]
theorem zcY (p : ProgramD) (fn : Int) (hf : p.fns.length <= 1048576) (hn : p.nodes.length <= 1048576) (hk : ∀ x ∈ p.nodes, x.kids.length <= 1048576) (hpl : ∀ f ∈ p.fns, f.params.length <= 1048576) :
   zw Tryz.prog 54 [.ro (zd p), .ro (.sc (.int .i64 fn))] (fun rs st => rs = [(false, [.row false 96 (rows (varC false) (zeS p fn))]), (false, [cB (zba p fn)])]) := by
 have e0 : rows (varC false) ([] : List VarD) = [] := rfl
 have w1 : IntKind.i64.wrap ((p.fns.length : Int) - 1) = (p.fns.length : Int) - 1 := w64 (by omega) (by omega)
 have hnr := YI p hf hn hk hpl
 simp only [zd] at hnr
 unfold zeS zba
 refine zm (fn := Tryz.f54) (c := Tryz.f54.body.getD .skip) (res := [.tm 4, .tm 5]) (n := 24) zg (by kernel_rfl) (by rfl) (by kernel_rfl) (by rfl) (by rfl) (by simp [zq]) (fun uf ub C hpin hpin2 hfull => ?_)
 simp only [Tryz.f54, Option.getD_some]
 refine Tri.step zg ?_
 simp +decide only [zd, za, hpin, go_sem, reduceAdd, reduceMul]
 refine Tri.ent ?_ (Ent.frb hfull 2)
 refine Tri.step zg ?_
 simp +decide only [zd, za, hpin, go_sem, reduceAdd, reduceMul]
 refine ze hnr hpin ?_
 cases hR : yx p with
 | false => simp +decide only [e0, zd, za, hpin, go_sem, reduceAdd, reduceMul]
 | true =>
 have hG := yA (Bool.and_eq_true_iff.1 hR).1
 have hk3 : ∀ x ∈ p.nodes, x.kids.length <= 300 := fun x hx => by have := hG.deep.few x hx; omega
 simp +decide only [w1, zd, za, hpin, go_sem, reduceAdd, reduceMul]
 refine ze (xH fn 0 (p.fns.length - 1)) hpin ?_
 cases h0 : inI fn 0 (p.fns.length - 1) with
 | false => simp +decide only [e0, zd, za, hpin, go_sem, reduceAdd, reduceMul]
 | true =>
 have hts := zce p hG.deep fn hf hn hk3 hpl
 simp only [zd] at hts
 simp +decide only [zd, za, hpin, go_sem, reduceAdd, reduceMul]
 refine zf zg _ ?_
 simp +decide only [zd, za, hpin, go_sem, reduceAdd, reduceMul]
 have htk := yq (varC false) (yd p fn)
 cases hB : Xl p fn with
 | true =>
   rw [hB] at hts
   simp only [if_true] at hts
   refine ze hts hpin ?_
   simp +decide only [htk, zd, za, hpin, go_sem, reduceAdd, reduceMul]
 | false =>
   rw [hB] at hts
   simp only [if_false, Bool.false_eq_true] at hts
   refine ze hts hpin ?_
   simp +decide only [e0, zd, za, hpin, go_sem, reduceAdd, reduceMul]
set_option maxHeartbeats 4000000
section
variable {P : Program} {w w1 : World} {C : Cx} {X : Nat -> Prop} {gh gh' : Gh} {st st' : St} {a : Act} {v : V} {u : Value} {K : St -> Prop}
theorem zom {f : FuncId} {km om : Nat} {em : TypeId} {esm : List (List D)} {ts : (Nat -> Value) -> List V} {iob : List (Nat × Ob)} {post : List RV -> St -> Prop} (hs : SoundAt P f ts iob post) (hpin : ∀ n, 3000 <= n -> C.pin n = none) (hfull : C.full) (M Mk Mr Mb : List (Nat × Nat)) (hMM : M = Mr ++ Mb) (hMv : M = (km, om) :: Mk) (hom : look st.ob om = some (.row em esm)) {vs : List V} {d : Option Nat}
   (hM : ioIs st iob M) (hMr : zaG st Mr) (hMk : (M.map (·.1)).Nodup) (hMo : (M.map (·.2)).Nodup) (hiob : iob.map (·.1) = M.map (·.1)) (hl : ∀ uf, Xe ⟨Mr, uf, pvOf C, [], iob⟩ Mb vs (ts uf))
   (hns : ∀ rs st', post rs st' -> zbt iob st'.ob Mk) (hK : ∀ rs st', post rs st' -> ev (b := ⟨K⟩) (XR ((st.kill om).wrote Mk st'.ob) d rs)) : zmY P C st f vs d K := by
 refine Or.inl ⟨hs.1, fun a w gh us h hus hv hd => ?_⟩
 classical
 let os := M.map (·.2)
 let gh0 : Gh := { S := gh.S, hv := fun k => match look M k with | some o => gh.hv o | none => undef, bb := fun k => match look M k with | some o => gh.bb o | none => 0, bo := fun k => match look M k with | some o => gh.bo o | none => 0, F := fun k b => ∃ o, look M k = some o /\ gh.F o b }
 let may : Nat -> Nat -> Prop := fun b f => ∃ k o x, look M k = some o /\ look st.ob o = some x /\ gh.F o b /\ (∀ cs, x = .box cs -> b = gh.bb o -> gh.bo o <= f /\ f < gh.bo o + cs.length)
 let C0 : Cx := { w0 := w, s0 := gh0.S, may := may, pin := fun k => if xj k = true then some (gh0.hv k, gh0.bb k, gh0.bo k) else none, z := fun k => gh.S k \/ w.heap.size <= k \/ ∃ f, may k f }
 obtain ⟨hlen, hl⟩ := XI (hl gh0.hv)
 have hosm : ∀ k o, look M k = some o -> o ∈ os /\ xj k = true /\ ∃ x, look st.ob o = some x /\ look iob k = some x := fun k o hk => by
   have hm := yN hk
   obtain ⟨g1, x, g2, g3, _⟩ := Xf hM k o hm
   exact ⟨List.mem_map.2 ⟨(k, o), hm, rfl⟩, g1, x, g2, g3⟩
 have hiobM : ∀ k x, look iob k = some x -> ∃ o, look M k = some o /\ look st.ob o = some x := fun k x hx => by
   have h1 : k ∈ iob.map (·.1) := List.mem_map.2 ⟨(k, x), yN hx, rfl⟩
   rw [hiob] at h1
   obtain ⟨⟨k', o⟩, hm, rfl⟩ := List.mem_map.1 h1
   have hk := yu hMk hm
   obtain ⟨_, _, x', g1, g2⟩ := hosm _ _ hk
   rw [hx] at g2; cases g2
   exact ⟨o, hk, g1⟩
 have hF0 : ∀ k o, look M k = some o -> gh0.F k = gh.F o := fun k o hk => by
   funext b; exact propext ⟨fun ⟨o', ho', hb⟩ => by rw [hk] at ho'; cases ho'; exact hb, fun hb => ⟨o, hk, hb⟩⟩
 have hv0 : ∀ k o, look M k = some o -> gh0.hv k = gh.hv o /\ gh0.bb k = gh.bb o /\ gh0.bo k = gh.bo o := fun k o hk => by simp only [gh0, hk, and_self]
 have hrep : Rep P C0 No ⟨us.size, zipT 0 (ts gh0.hv), iob⟩ ⟨us, []⟩ w gh0 := {
   obs := fun k b hb => by
     obtain ⟨o, hk, ho⟩ := hiobM k b hb
     obtain ⟨g1, g2, g3⟩ := hv0 k o hk
     exact (h.obs o b ho).at (gh' := gh0) rfl g1 g2 g3 (hF0 k o hk)
   dis := fun k k' b b' q hb hb' ⟨o, ho, hq⟩ ⟨o', ho', hq'⟩ => by
     obtain ⟨_, _, x, g1, _⟩ := hosm k o ho
     obtain ⟨_, _, x', g1', _⟩ := hosm k' o' ho'
     have := h.dis o o' _ _ q g1 g1' hq hq'
     subst this
     exact YG hMo (yN ho) (yN ho')
   sS := h.sS
   nS := fun k b q hb ⟨o, ho, hq⟩ hS => by
     obtain ⟨g0, _, x, g1, _⟩ := hosm k o ho
     exact h.nS o _ q g1 hq hS
   wrR := fun k e es q hb ⟨o, ho, hq⟩ => Or.inr (fun f => by
     obtain ⟨_, _, x, g1, g2⟩ := hosm k o ho
     have hb : look iob k = some (.row e es) := hb
     rw [g2] at hb; cases hb
     exact ⟨k, o, _, ho, g1, hq, fun cs hc => by cases hc⟩)
   wrB := fun k cs q hb ⟨o, ho, hq⟩ hne => Or.inr (fun f => by
     obtain ⟨_, _, x, g1, g2⟩ := hosm k o ho
     exact ⟨k, o, _, ho, g1, hq, fun cs' _ he => (hne (by rw [(hv0 k o ho).2.1]; exact he)).elim⟩)
   wrC := fun k cs j hb hj => Or.inr (by
     obtain ⟨o, hk, ho⟩ := hiobM k _ hb
     obtain ⟨g1, g2, g3⟩ := hv0 k o hk
     rw [g2, g3]
     refine ⟨k, o, _, hk, ho, ?_, fun cs' hc _ => by cases hc; exact ⟨by omega, by omega⟩⟩
     have := h.obs o _ ho
     cases this with
     | box xs G hb hl h1 hc hxx dis nb hF => exact (hF _).2 (Or.inl rfl))
   kept := World.keptBut_refl w _
   pins := fun k x hp hn => by
     simp only [C0] at hp
     split at hp
     · cases hp; rfl
     · cases hp
   tms := fun t => by
     have e1 : St.get ⟨us.size, zipT 0 (ts gh0.hv), iob⟩ t = ((ts gh0.hv)[t]?).getD .dead := by
       unfold St.get; simp only [Zy, Nat.zero_le, if_true, Nat.sub_zero]
     rw [e1]
     cases hi : (ts gh0.hv)[t]? with
     | none => exact .dead
     | some x =>
       have hlt := (List.getElem?_eq_some_iff.1 hi).1
       have hvt : vs[t]? = some vs[t] := List.getElem?_eq_getElem (by omega)
       have hle := hl t _ x hvt hi
       have hvr := hv t _ hvt
       simp only [Option.getD_some]
       have low : xK ⟨Mr, gh0.hv, pvOf C, [], iob⟩ vs[t] x -> VR P w gh0 iob x (us.getD t undef) := fun hle => by
         refine zaf (gh0 := gh0) (L := ⟨Mr, gh0.hv, pvOf C, [], iob⟩) (fun k o hk => ?_) (fun o v hv hso => ?_) h.obs (fun k hk => hk) (fun o x k hx hk => by simp [look] at hx) (fun o x hx => by simp [look] at hx) hvr hle
         · have hmm : (k, o) ∈ M := by rw [hMM]; exact List.mem_append_left _ hk
           have hk' := yu hMk hmm
           obtain ⟨_, _, x', g1, g2⟩ := hosm k o hk'
           obtain ⟨e, es, g3⟩ := zaF hMr k o hk
           rw [g3] at g1; cases g1
           exact ⟨e, es, g3, g2, (hv0 k o hk').1, rfl⟩
         · obtain ⟨x, hx, rfl⟩ := Option.map_eq_some_iff.1 hv
           have := h.pins o x hx (fun e => by rw [e] at hso; cases hso)
           rw [<- this]
       unfold zhK at hle
       split at hle
       · rename_i o j heq
         rw [heq] at hvr
         split at hle
         · rename_i k j'
           obtain ⟨hk0, rfl⟩ := hle
           have hmm : (k, o) ∈ M := by rw [hMM]; exact List.mem_append_right _ (yN hk0)
           have hk' := yu hMk hmm
           obtain ⟨g1, g2, g3⟩ := hv0 k o hk'
           obtain ⟨_, _, x', g4, g5⟩ := hosm k o hk'
           generalize us.getD t undef = u0 at hvr
           cases hvr with
           | bp hx =>
             rw [hx] at g4; cases g4
             have := VR.bp (P := P) (w := w) (gh := gh0) (j := j) g5
             rw [g2, g3] at this; exact this
         · exact hle.elim
       · rename_i ch j heq
         rw [heq] at hvr
         split at hle
         · obtain ⟨rfl, rfl⟩ := hle
           generalize us.getD t undef = u0 at hvr
           cases hvr with
           | ip U hs' h' => exact .ip U hs' h'
         · exact hle.elim
       · exact low hle
   nt := Nat.le_refl _
   dfs := rfl
   xl := fun k hk => hk.elim
   xS := fun k hk => hk.elim
   xF := fun o b k hb hk => hk.elim
   xW := fun k hk => hk.elim
   s0S := fun k hk => hk
   sZ := fun k hk => Or.inl hk }
 refine (hs.2 gh0.hv (fun o => (gh0.bb o, gh0.bo o)) C0 w gh0 us rfl (fun o ho => by simp only [C0, ho]; rfl) (fun o ho => by simp only [C0, ho]; rfl) (fun k hk => Or.inr hk) (by omega) hrep).mono (fun e w' he => ?_)
 obtain ⟨vs', rs, st', a', gc, G, rfl, hpost, hres, hR⟩ := he
 refine ⟨tupV vs', rfl, ?_⟩
 have hlike := hns rs st' hpost
 have hk := hR.kept
 have mayos : ∀ b f, may b f -> ∃ o x, o ∈ os /\ look st.ob o = some x /\ gh.F o b := fun b f ⟨k, o, x, hk, hx, hb, _⟩ => ⟨o, x, (hosm k o hk).1, hx, hb⟩
 have allmay : ∀ b, (∀ f, may b f) -> ∃ o x, o ∈ os /\ look st.ob o = some x /\ gh.F o b /\ ∀ cs, x = .box cs -> b ≠ gh.bb o := fun b hb => by
   obtain ⟨k, o, x, hk, hx, hF, _⟩ := hb 0
   refine ⟨o, x, (hosm k o hk).1, hx, hF, fun cs hc he => ?_⟩
   obtain ⟨k2, o2, x2, hk2, hx2, hF2, h2⟩ := hb (gh.bo o + cs.length)
   have := h.dis o o2 _ _ b hx hx2 hF hF2
   subst this
   rw [hx] at hx2; cases hx2
   have := h2 cs hc he
   omega
 have wr0 : ∀ o x b, look st.ob o = some x -> gh.F o b -> (∀ cs, x = .box cs -> b ≠ gh.bb o) -> C.w0.heap.size <= b \/ ∀ f, C.may b f := fun o x b hx hb hc => by
   cases x with
   | row e es => exact h.wrR o e es b hx hb
   | box cs => exact h.wrB o cs b hx hb (hc cs rfl)
 have wrA : ∀ b, (∀ f, may b f) -> C.w0.heap.size <= b \/ ∀ f, C.may b f := fun b hb => by
   obtain ⟨o, x, _, hx, hF, hc⟩ := allmay b hb
   exact wr0 o x b hx hF hc
 have wr1 : ∀ b f, may b f -> C.w0.heap.size <= b \/ C.may b f := fun b f ⟨k, o, x, hk, hx, hF, hc⟩ => by
   by_cases hbx : ∀ cs, x = .box cs -> b ≠ gh.bb o
   · exact (wr0 o x b hx hF hbx).imp id (fun hh => hh f)
   · simp only [Classical.not_forall] at hbx
     obtain ⟨cs, hcs, hne⟩ := hbx
     have he : b = gh.bb o := Classical.not_not.1 hne
     subst hcs
     obtain ⟨g1, g2⟩ := hc cs rfl he
     have := h.wrC o cs (f - gh.bo o) hx (by omega)
     rw [show gh.bo o + (f - gh.bo o) = f by omega] at this
     rw [he]; exact this
 have heap : ∀ k, k < w.heap.size -> ¬ (∃ f, may k f) -> w'.heap[k]? = w.heap[k]? := by
   intro k hk' hn
   refine xx hk hk' (fun f hm => ?_) (fun hm => ?_)
   · obtain ⟨b, f', e, hm⟩ := hm
     injection e with e1 e2
     rw [<- e1, <- e2] at hm
     exact hn ⟨f, hm⟩
   · obtain ⟨b, f', e, _⟩ := hm
     cases e
 have hsub : ∀ {k o}, (k, o) ∈ Mk -> (k, o) ∈ M := fun h => by rw [hMv]; exact List.mem_cons_of_mem _ h
 let osk := Mk.map (·.2)
 have homk : om ∉ osk := fun ho => by
   have := hMo
   rw [hMv, List.map_cons, List.nodup_cons] at this
   exact this.1 ho
 have h' := h.take hom
 have hlk : ∀ o, look (st.kill om).ob o = if om = o then none else look st.ob o := yh st om
 have hos2 : ∀ o, o ∈ os -> o = om \/ o ∈ osk := fun o ho => by
   have ho' : o ∈ M.map (·.2) := ho
   rw [hMv, List.map_cons] at ho'
   exact List.mem_cons.1 ho'
 have hnew : ∀ k o, (k, o) ∈ Mk -> ∃ x y, look st.ob o = some x /\ look st'.ob k = some y /\ x.like y := fun k o hm => by
   obtain ⟨_, x, g1, g2, _⟩ := Xf hM k o (hsub hm)
   obtain ⟨x', y, g3, g4, g5⟩ := zbV hlike k o hm
   rw [g2] at g3; cases g3
   exact ⟨x, y, g1, g4, g5⟩
 have hnewo : ∀ o, o ∈ osk -> ∃ k y, (k, o) ∈ Mk /\ look st'.ob k = some y /\ look (xZ st'.ob Mk) o = some y := fun o ho => by
   obtain ⟨k, hm, hl'⟩ := (xT st'.ob Mk o).1 ho
   obtain ⟨x, y, _, g2, _⟩ := hnew k o hm
   rw [g2] at hl'
   exact ⟨k, y, hm, g2, hl'⟩
 have hlook : ∀ o, look ((st.kill om).wrote Mk st'.ob).ob o = if o ∈ osk then look (xZ st'.ob Mk) o else look (st.kill om).ob o := fun o => by
   simp only [St.wrote, Xc, ZS]
   by_cases ho : o ∈ osk
   · obtain ⟨k, y, _, _, g⟩ := hnewo o ho
     have ho' : o ∈ Mk.map (·.2) := ho
     simp only [if_pos ho', if_pos ho, g, Option.or_none]
   · have hn := (xT st'.ob Mk o).2 ho
     have ho' : o ∉ Mk.map (·.2) := ho
     simp only [if_neg ho', if_neg ho, hn, Option.none_or]
 let ghn : Gh := { S := gc.S, hv := gh.hv, bb := gh.bb, bo := gh.bo, F := fun o => if o ∈ osk then (fun b => ∃ k, (k, o) ∈ Mk /\ gc.F k b) else gh.F o }
 have gin : ∀ k o, (k, o) ∈ Mk -> ghn.F o = gc.F k := fun k o hm => by
   have ho : o ∈ osk := List.mem_map.2 ⟨(k, o), hm, rfl⟩
   simp only [ghn, if_pos ho]
   funext b
   exact propext ⟨fun ⟨k', hm', hb⟩ => by have := YG hMo (hsub hm) (hsub hm'); subst this; exact hb, fun hb => ⟨k, hm, hb⟩⟩
 have gout : ∀ o, o ∉ osk -> ghn.F o = gh.F o := fun o ho => by simp only [ghn]; rw [if_neg ho]
 have hpn : ∀ k o, (k, o) ∈ Mk -> gc.hv k = gh.hv o /\ gc.bb k = gh.bb o /\ gc.bo k = gh.bo o := fun k o hm => by
   have hkl := yu hMk (hsub hm)
   obtain ⟨x, y, _, g2, _⟩ := hnew k o hm
   have hp := hR.pins k (gh0.hv k, gh0.bb k, gh0.bo k) (by simp only [C0]; rw [if_pos (hosm k o hkl).2.1]) (by rw [g2]; simp)
   obtain ⟨g1, g2, g3⟩ := hv0 k o hkl
   rw [g1, g2, g3] at hp
   simp only [Prod.mk.injEq] at hp
   exact hp
 have newB : ∀ b, (w.heap.size <= b \/ ∃ f, may b f) -> (∃ o', o' ∈ osk /\ gh.F o' b) \/ (No b \/ gh.F om b) \/ w.heap.size <= b := fun b hb => by
   rcases hb with hb | ⟨f, hb⟩
   · exact Or.inr (Or.inr hb)
   · obtain ⟨o, x, ho, _, hF⟩ := mayos b f hb
     rcases hos2 o ho with rfl | ho
     · exact Or.inr (Or.inl (Or.inr hF))
     · exact Or.inl ⟨o, ho, hF⟩
 have fullB : ∀ b, (w.heap.size <= b \/ ∃ f, may b f) -> C.z b := fun b hb => hfull b (by
   rcases hb with hb | ⟨f, hb⟩
   · exact Or.inl (Nat.le_trans h.size hb)
   · exact (wr1 b f hb).imp id (fun hh => ⟨f, hh⟩))
 have cF : ∀ k o, (k, o) ∈ Mk -> ∀ b, gc.F k b -> (w.heap.size <= b \/ ∃ f, may b f) /\ (∀ y, look st'.ob k = some y -> (∀ cs, y = .box cs -> b ≠ gh.bb o) -> C.w0.heap.size <= b \/ ∀ f, C.may b f) := fun k o hm b hb => by
   obtain ⟨x, y, g1, g2, g3⟩ := hnew k o hm
   have hp := hpn k o hm
   have all : (∀ cs, y = .box cs -> b ≠ gh.bb o) -> w.heap.size <= b \/ ∀ f, may b f := fun hc => by
     cases y with
     | row e es => exact hR.wrR k e es b g2 hb
     | box cs => exact hR.wrB k cs b g2 hb (by rw [hp.2.1]; exact hc cs rfl)
   refine ⟨?_, fun y' hy' hc => ?_⟩
   · by_cases hbb : b = gh.bb o /\ ∃ cs, y = .box cs
     · obtain ⟨he, cs, rfl⟩ := hbb
       cases x with
       | row e es => simp [Ob.like] at g3
       | box cs0 =>
         have hob := h.obs o _ g1
         have hFb : gh.F o (gh.bb o) := by
           cases hob with
           | box xs G hb hl h1 hc hxx dis nb hF => exact (hF _).2 (Or.inl rfl)
         by_cases hn : 0 < cs0.length
         · exact Or.inr ⟨gh.bo o, k, o, _, yu hMk (hsub hm), g1, by rw [he]; exact hFb, fun cs' hc _ => by cases hc; omega⟩
         · obtain ⟨_, x1, q1, _, q3⟩ := Xf hM k o (hsub hm)
           rw [g1] at q1; cases q1
           exact (q3 (by rw [List.eq_nil_of_length_eq_zero (by omega : cs0.length = 0)])).elim
     · exact (all (fun cs hc he => hbb ⟨he, cs, hc⟩)).imp id (fun hh => ⟨0, hh 0⟩)
   · rw [g2] at hy'; cases hy'
     rcases all hc with hh | hh
     · exact Or.inl (Nat.le_trans h.size hh)
     · exact wrA b hh
 have hin : Rep P C (Yv rs G) ((st.kill om).wrote Mk st'.ob) a w' ghn := by
   refine h'.multiX osk ghn (Yv rs G) (fun o ho => by rw [hlook, if_neg ho]) (fun t => by unfold St.get St.wrote; simp only [Zm]; cases look (st.kill om).tm t <;> simp [xa, osk]) rfl
     (fun o ho => by
       obtain ⟨k, y, hm, g2, g3⟩ := hnewo o ho
       obtain ⟨x, y', g4, g5, g6⟩ := hnew k o hm
       rw [g2] at g5; cases g5
       exact ⟨x, y, by rw [hlk, if_neg (fun e => homk (by rw [e]; exact ho))]; exact g4, by rw [hlook, if_pos ho]; exact g3, g6⟩)
     ⟨rfl, rfl, rfl⟩ gout hk.size
     (fun o x k ho hx hk' => by
       rw [hlk] at hx
       split at hx
       · cases hx
       · rename_i hne
         exact heap k ((h.obs o x hx).lt k hk') (fun ⟨f, hm⟩ => by
           obtain ⟨o', x', ho', hx', hF⟩ := mayos k f hm
           have := h.dis o o' x _ k hx hx' hk' hF
           subst this
           rcases hos2 o ho' with e | e
           · exact hne e.symm
           · exact ho e))
     (fun k hk' => heap k (h.sS k hk') (fun ⟨f, hm⟩ => by
       obtain ⟨o', x', ho', hx', hF⟩ := mayos k f hm
       exact h.nS o' _ k hx' hF hk'))
     (World.keptBut_mono (fun p hp => by
       obtain ⟨b, f, e, hm⟩ := hp
       exact ⟨b, f, e, wr1 b f hm⟩) hk)
     (fun k hk' => hR.s0S k hk')
     (fun k hk' => ⟨hR.sS k hk', by
       rcases hR.sZ k hk' with hz | hz
       · exact ⟨h.sZ k hz, Or.inl hz⟩
       · refine ⟨fullB k hz, Or.inr ?_⟩
         rcases newB k hz with hh | hh | hh
         · exact Or.inl hh
         · exact Or.inr (Or.inl hh)
         · exact Or.inr (Or.inr hh)⟩)
     (fun o ho y hy => by
       rw [hlook, if_pos ho] at hy
       obtain ⟨k, y', hm, g2, g3⟩ := hnewo o ho
       rw [g3] at hy; cases hy
       obtain ⟨p1, p2, p3⟩ := hpn k o hm
       exact (hR.obs k _ g2).at (gh' := ghn) rfl p1.symm p2.symm p3.symm (gin k o hm))
     (fun o ho b hb => by
       obtain ⟨k, y, hm, g2, g3⟩ := hnewo o ho
       rw [gin k o hm] at hb
       rcases newB b (cF k o hm b hb).1 with hh | hh | hh
       · exact Or.inl hh
       · exact Or.inr (Or.inl hh)
       · exact Or.inr (Or.inr hh))
     (fun o o' b ho ho' hb hb' => by
       obtain ⟨k, y, hm, g2, g3⟩ := hnewo o ho
       obtain ⟨k', y', hm', g2', g3'⟩ := hnewo o' ho'
       rw [gin k o hm] at hb
       rw [gin k' o' hm'] at hb'
       have := hR.dis k k' _ _ b g2 g2' hb hb'
       subst this
       have h1 := yu hMk (hsub hm)
       have h2 := yu hMk (hsub hm')
       rw [h1] at h2; cases h2; rfl)
     (fun o b ho hb => by
       obtain ⟨k, y, hm, g2, g3⟩ := hnewo o ho
       rw [gin k o hm] at hb
       exact hR.nS k _ b g2 hb)
     (fun o b y ho hy hb hc => by
       obtain ⟨k, y', hm, g2, g3⟩ := hnewo o ho
       rw [hlook, if_pos ho, g3] at hy; cases hy
       rw [gin k o hm] at hb
       exact (cF k o hm b hb).2 _ g2 hc)
     (fun b hb => ⟨hR.xl b hb, hR.xS b hb, by
       rcases hR.xW b hb with hw | hw
       · exact Or.inl (Nat.le_trans h.size hw)
       · exact wrA b hw, by
       rcases hR.xW b hb with hw | hw
       · exact Or.inr (Or.inr hw)
       · obtain ⟨o, x, ho, _, hF, _⟩ := allmay b hw
         rcases hos2 o ho with rfl | ho
         · exact Or.inr (Or.inl (Or.inr hF))
         · exact Or.inl ⟨o, ho, hF⟩⟩)
     (fun o b ho hb hX => by
       obtain ⟨k, y, hm, g2, g3⟩ := hnewo o ho
       rw [gin k o hm] at hb
       exact hR.xF k _ b g2 hX hb)
 have hres' : Res P w' ghn.S rs vs' G := hres
 cases d with
 | none => exact ⟨_, ghn, hK rs st' hpost, hin.less (fun k hk => hk.elim)⟩
 | some d =>
   obtain ⟨gh2, hr2, hn2, hl2, hv2, _, _⟩ := YL d rs vs' G 0 hin hpin hres' (fun b hb => hb)
   refine ⟨_, gh2, hK rs st' hpost, ?_⟩
   simp only [XR]
   refine (hr2.less (X' := No) (fun k hk => hk.elim)).set (by rw [hn2]; exact hd d rfl) ?_
   match rs, vs', hl2, hv2 with
   | [], [], _, hv2 => exact .tup rfl (fun i v hi => by simp [vsR] at hi)
   | [r], [v], _, hv2 => exact hv2 0 _ _ rfl rfl
   | r :: r2 :: rs, v :: v2 :: vs, hl2, hv2 =>
     refine .tup (by simp [<- hl2]) (fun i x hi => ?_)
     have hil := (List.getElem?_eq_some_iff.1 hi).1
     have hvi : (v :: v2 :: vs)[i]? = some (v :: v2 :: vs)[i] := List.getElem?_eq_getElem (by omega)
     have := hv2 i x _ hi hvi
     simpa [Array.getD_eq_getD_getElem?, hvi] using this
   | [], v :: vs, hl2, _ => simp [vsR] at hl2
   | r :: rs, [], hl2, _ => simp [vsR] at hl2
   | [r], v :: v2 :: vs, hl2, _ => simp [vsR] at hl2
   | r :: r2 :: rs, [v], hl2, _ => simp [vsR] at hl2
theorem zmX {f : FuncId} {km om : Nat} {em : TypeId} {esm : List (List D)} {ts : (Nat -> Value) -> List V} {iob N : List (Nat × Ob)} {R : List RV} (hs : SoundAt P f ts iob (fun rs st => rs = R /\ xB st.ob N)) (hpin : ∀ o, xj o = false -> C.pin o = none) (hfull : C.full) (M Mk Mr Mb : List (Nat × Nat)) {vs : List V} {d : Option Nat}
   (hMM : M = Mr ++ Mb /\ M = (km, om) :: Mk /\ XG (M.map (·.1)) = true /\ XG (M.map (·.2)) = true /\ iob.map (·.1) = M.map (·.1)) (hom : look st.ob om = some (.row em esm)) (hl : ∀ uf, Xe ⟨Mr, uf, pvOf C, [], iob⟩ Mb vs (ts uf))
   (h : ioIs st iob M /\ zaG st Mr /\ zbt iob N Mk /\ ev (b := ⟨K⟩) (XR ((st.kill om).wrote Mk N) d R)) : Xo (b := ⟨K⟩) P C st f vs d := by
 refine zom hs (pin3 hpin) hfull M Mk Mr Mb hMM.1 hMM.2.1 hom h.1 h.2.1 (zae hMM.2.2.1) (zae hMM.2.2.2.1) hMM.2.2.2.2 hl (fun rs st' hr => ?_) (fun rs st' hr => ?_)
 · exact (Yc (Yb hr.2) Mk h.2.2.1).2
 · have e : (st.kill om).wrote Mk st'.ob = (st.kill om).wrote Mk N := by unfold St.wrote; rw [(Yc (Yb hr.2) Mk h.2.2.1).1]
   rw [hr.1, e]; exact h.2.2.2
def St.own (st : St) (t : Nat) (e : TypeId) (o : Nat) : St := match look st.ob o with
 | none => (match st.get t with
   | .nil _ => (st.put o (.row e [])).set t (.ref o [] 0)
   | .sc (.slice none 0 0) => (st.put o (.row e [])).set t (.ref o [] 0)
   | _ => st)
 | _ => st
theorem Ent.own (t : Nat) (e : TypeId) (o : Nat) (hp : C.pin o = none) : Ent P C st (st.own t e o) := fun a w gh h => by
 have key : ∀ (ho : look st.ob o = none), a.tmps.getD t undef = .slice none 0 0 -> ∃ gh', Rep P C No ((st.put o (.row e [])).set t (.ref o [] 0)) a w gh' := fun ho hu => by
   have h1 : ObR P w (gh.upd o (.slice none 0 0) 0 0 (fun _ => False)) o (.row e []) := .row (by
     have : Ow P w gh.S (.sc (.slice none 0 0)) (.slice none 0 0) (fun _ => False) := .sc rfl
     simpa [Gh.upd] using this.nilr (e := e))
   have h2 := (h.lay ho hp h1 (fun k hk => hk.elim)).less (X' := No) (fun k hk => hk.elim)
   refine ⟨_, h2.set0 ?_⟩
   rw [hu]
   refine .ref (x := .row e []) (e := e) (es := []) (A := none) (c := 0) (xf _ _ _) ?_ (Nat.le_refl _)
   have : (gh.upd o (.slice none 0 0) 0 0 (fun _ => False)).hv o = .slice none 0 0 := by simp [Gh.upd]
   show Nav P w (.row false e []) ((gh.upd o (.slice none 0 0) 0 0 (fun _ => False)).hv o) [] (.row false e []) (.slice none 0 0)
   rw [this]
   exact .nil
 unfold St.own
 split
 · rename_i ho
   have ht := h.tms t
   split
   · rename_i he
     rw [he] at ht
     refine key ho ?_
     generalize a.tmps.getD t undef = u at ht
     cases ht; rfl
   · rename_i he
     rw [he] at ht
     refine key ho ?_
     generalize a.tmps.getD t undef = u at ht
     cases ht; rfl
   · exact ⟨gh, h⟩
 · exact ⟨gh, h⟩
def SoundAtN (P : Program) (f : FuncId) (ts : (Nat -> Value) -> List V) (ob0 : List (Nat × Ob)) (post : List RV -> St -> Prop) : Prop :=
 Yk P f = true /\ ∀ (uf : Nat -> Value) (ub : Nat -> Nat × Nat) (C : Cx) (w : World) (gh : Gh) (us : Array Value), C.w0 = w -> (∀ o, xj o = false -> C.pin o = none) -> (∀ o, xj o = true -> C.pin o = some (uf o, ub o)) -> us.size = (ts uf).length ->
   Rep P C No ⟨us.size, zipT 0 (ts uf), ob0⟩ ⟨us, []⟩ w gh ->
   Calls P f us w (fun e w' => ∃ (vs : List Value) (rs : List RV) (st' : St) (a' : Act) (gh' : Gh) (G : Nat -> Nat -> Nat -> Prop), e = .returned (tupV vs) /\ post rs st' /\ Res P w' gh'.S rs vs G /\ Rep P C (Yv rs G) st' a' w' gh')
theorem SoundAtN.at {f : FuncId} {ts : (Nat -> Value) -> List V} {ob0 : List (Nat × Ob)} {post : List RV -> St -> Prop} (h : SoundAtN P f ts ob0 post) : SoundAt P f ts ob0 post :=
 ⟨h.1, fun uf ub C w gh us h1 h2 h3 _ h5 h6 => h.2 uf ub C w gh us h1 h2 h3 h5 h6⟩
end
attribute [go_sem] St.own
def aAny (P : Program) (C : Cx) (ops : Array Oper) : List (Nat × Sch) -> St -> (St -> Prop) -> Prop
 | [], _, _ => True
 | (i, r) :: t, st, K => zcI P C ops i st (fun st' => Xq P C ops r st' K) /\ aAny P C ops t st K
def aPre (P : Program) (C : Cx) (ops : Array Oper) (L : List (Nat × Sch)) : List Nat -> St -> (St -> Prop) -> Prop
 | [], st, K => aAny P C ops L st K
 | i :: r, st, K => match ops[i]? with
   | some o => Zq st o /\ (match zkz P ops st o with
     | some (s, v) => s /\ ev (b := ⟨fun st' => aPre P C ops L r st' K⟩) (ZF st o.dst v)
     | none => False)
   | none => False
def preB (ops : Array Oper) (L : List (Nat × Sch)) : List Nat -> Array Bool -> Nat -> Bool
 | [], l, n + 1 => Region.ready .any ops l == L.map (·.1) && (!L.isEmpty && L.all (fun p => zap ops p.2 (l.setIfInBounds p.1 true) n))
 | i :: r, l, n + 1 => ((Region.ready .any ops l).contains i && Region.free .any ops l i) && preB ops L r (l.setIfInBounds i true) n
 | _, _, 0 => false
def zor (ops : Array Oper) (pre : List Nat) (L : List (Nat × Sch)) : Bool := Region.noSelect ops && preB ops L pre (Array.replicate ops.size false) ops.size
section
variable {P : Program} {w w1 : World} {C : Cx} {X : Nat -> Prop} {gh gh1 : Gh} {st : St} {a : Act} {v : V} {u : Value} {ob : List (Nat × Ob)} {S : Nat -> Prop} {K : St -> Prop}
theorem zkk {ops : Array Oper} : ∀ {L : List (Nat × Sch)}, aAny P C ops L st K -> ∀ p ∈ L, zcI P C ops p.1 st (fun st' => Xq P C ops p.2 st' K)
 | [], _, p, hp => by simp at hp
 | (i, r) :: t, h, p, hp => by
   rcases List.mem_cons.1 hp with rfl | hp
   · exact h.1
   · exact zkk h.2 p hp
theorem zft (hz : xp P) {ops : Array Oper} {Q : Exit -> St -> Prop} {w : World} {gh : Gh} {C0 : Cx} {X0 : Nat -> Prop} {st0 : St} {a0 : Act} (h0 : Rep P C0 X0 st0 a0 w gh) (hns : Region.noSelect ops = true) (L : List (Nat × Sch)) :
   ∀ (pre : List Nat) (l : Array Bool) (n : Nat) {st : St} {a : Act} {w1 : World} {gh1 : Gh}, Rep P (C0.here w gh.S) No st a w1 gh1 -> preB ops L pre l n = true -> aPre P (C0.here w gh.S) ops L pre st (Q .normal) ->
   wpAnyH P .any ops (fun e a' w' => match e with | .normal => Up P (C0.here w gh.S) (Q .normal) a' w' | _ => False) (fun w' => ∀ k, gh.S k -> w'.heap[k]? = w.heap[k]?) n l a w1
 | [], l, 0, st, a, w1, gh1, h, hb, hk => by simp [preB] at hb
 | _ :: _, l, 0, st, a, w1, gh1, h, hb, hk => by simp [preB] at hb
 | [], l, n + 1, st, a, w1, gh1, h, hb, hk => by
   simp only [preB, Bool.and_eq_true, beq_iff_eq] at hb
   obtain ⟨hb1, hb2, hb3⟩ := hb
   have hne : L.map (·.1) ≠ [] := by
     cases L with
     | nil => simp at hb2
     | cons p t => simp
   refine wpAnyH_all (rs := L.map (·.1)) hb1 hne (fun i' hi' => ?_)
   obtain ⟨p, hp, rfl⟩ := List.mem_map.1 hi'
   have hk := zkk hk p hp
   have hbp := List.all_eq_true.1 hb3 p hp
   unfold zcI at hk
   split at hk
   case h_2 => exact hk.elim
   rename_i o ho
   obtain ⟨hdst, hk⟩ := hk
   unfold wpOp
   simp only [ho]
   have hop := ZQ (Q := fun e a' w' => match e with | .normal => Up P (C0.here w gh.S) (Q .normal) a' w' | _ => False) hz h hdst hk
   have next : ∀ a' w', Up P (C0.here w gh.S) (fun st' => Xq P (C0.here w gh.S) ops p.2 st' (Q .normal)) a' w' -> (∀ k, gh.S k -> w'.heap[k]? = w.heap[k]?) /\
       wpAnyH P .any ops (fun e a' w' => match e with | .normal => Up P (C0.here w gh.S) (Q .normal) a' w' | _ => False) (fun w' => ∀ k, gh.S k -> w'.heap[k]? = w.heap[k]?) n (l.setIfInBounds p.1 true) a' w' := fun a' w' ⟨st', gh', hk', h'⟩ =>
     ⟨h0.lent h', zeu hz h0 hns p.2 _ _ h' hbp hk'⟩
   split
   · rename_i hw
     rw [if_pos hw] at hop
     exact Or.inl (Oper.wp_mono next hop)
   · rename_i hw
     rw [if_neg hw] at hop
     exact next _ _ hop
 | i :: r, l, n + 1, st, a, w1, gh1, h, hb, hk => by
   simp only [preB, Bool.and_eq_true] at hb
   obtain ⟨hb1, hb2⟩ := hb
   unfold aPre at hk
   split at hk
   case h_2 => exact hk.elim
   rename_i o ho
   obtain ⟨hdst, hk⟩ := hk
   split at hk
   case h_2 => exact hk.elim
   rename_i s v hp
   obtain ⟨y, hy, hv⟩ := zaD (Sw := fun w' => ∀ k, gh.S k -> w'.heap[k]? = w.heap[k]?) hz h (fun w' hw k hk => by
     have h1 := h.sZ k hk
     exact (hw k h1).trans (h0.lent h k h1).symm) hp hk.1
   exact wpAnyH_take ho hns hb1.2 hb1.1 (fun c a w hq => hq.elim) hy (h0.lent h) (zft hz h0 hns L r _ _ (h.dst (zax hdst) hv) hb2 hk.2)
theorem Tri.many (hz : xp P) {id : Nat} {ops : Array Oper} {Q : Exit -> St -> Prop} (pre : List Nat) (L : List (Nat × Sch)) (hm : P.follows .mixedOrders = true) (hb : zor ops pre L = true) (hk : ∀ C', C'.pin = C.pin -> aPre P C' ops L pre st (Q .normal)) : Tri P C st (.region id ops true) Q := fun a w gh hR => by
 simp only [zor, Bool.and_eq_true] at hb
 obtain ⟨hb1, hb2⟩ := hb
 have hd := hR.drew
 refine Code.wp_mono (fun e a' w' hq => ?_) (wp_region_held (S := fun w' => ∀ k, gh.S k -> w'.heap[k]? = w.drew.heap[k]?) hm ?_ (Q := fun e a' w' => match e with | .normal => Up P (C.here w.drew gh.S) (Q .normal) a' w' | _ => False))
 · cases e with
   | normal =>
     obtain ⟨st', gh', hk', h'⟩ := hq
     exact ⟨st', gh', hk', hd.back h'⟩
   | _ => exact hq.elim
 · exact zft hz hd hb1 L pre (Array.replicate ops.size false) ops.size hd.here hb2 (Q := Q) (hk _ rfl)
end
attribute [go_sem] aAny aPre
set_option maxHeartbeats 8000000
theorem zrt : fo Tryz.prog 183 0 = some 0 := by kernel_rfl
theorem zrs : fo Tryz.prog 183 1 = some 1 := by kernel_rfl
theorem zrr : fo Tryz.prog 183 2 = some 2 := by kernel_rfl
theorem rPkr : isR Tryz.prog 183 = some true := by kernel_rfl
theorem sPkr : szT Tryz.prog 183 = 3 := by kernel_rfl
theorem zPkr : zeroCells Tryz.prog 183 = some [.slice none 0 0, .slice none 0 0, .bool false] := by kernel_rfl
theorem zrh : xJ Tryz.prog 183 = some [(0, 1), (1, 1), (2, 1)] := by kernel_rfl
attribute [go_sem] zrt zrs zrr rPkr sPkr zPkr zrh
theorem zrq : fo Tryz.prog 178 0 = some 0 := by kernel_rfl
theorem zrp : fo Tryz.prog 178 1 = some 1 := by kernel_rfl
theorem zro : fo Tryz.prog 178 2 = some 2 := by kernel_rfl
theorem rPks : isR Tryz.prog 178 = some true := by kernel_rfl
theorem sPks : szT Tryz.prog 178 = 3 := by kernel_rfl
theorem zPks : zeroCells Tryz.prog 178 = some [.slice none 0 0, .slice none 0 0, .bool false] := by kernel_rfl
theorem zrg : xJ Tryz.prog 178 = some [(0, 1), (1, 1), (2, 1)] := by kernel_rfl
attribute [go_sem] zrq zrp zro rPks sPks zPks zrg
def pkC (N to : List NodeD) (b : Bool) : List D := [.row true 83 (rows (zh true) N), .row false 83 (rows (zh false) to), .sc (.bool b)]
theorem zmJ {l : List Int} {i : Nat} (h : i < l.length) : l.drop i = l[i] :: l.drop (i + 1) := List.drop_eq_getElem_cons h
theorem zhb (V : Int -> PkS -> Int × PkS) {l : List Int} {i : Nat} (h : i < l.length) {t : PkS} (ht : t.bad = false) : runB V (l.drop i) t = ((V l[i] t).1 :: (runB V (l.drop (i + 1)) (V l[i] t).2).1, (runB V (l.drop (i + 1)) (V l[i] t).2).2) := by
 rw [zmJ h]
 conv => lhs; unfold runB
 rw [if_neg (by simp [ht])]
theorem YH (l : List NodeD) (x : NodeD) : rows (zh false) l ++ [[D.sc (.int .i64 x.kind), .sc (.int .i64 x.num), .sc (.string x.name), .row false 3 (row1 cI x.kids)]] = rows (zh false) (l ++ [x]) := XA (zh false) l x
def PutI (N : List NodeD) (d : Nat) : Prop := ∀ (k : Int) (s : PkS), s.to.length <= 300 -> SoundAt Tryz.prog 189 (fun uf => zq 0 [.ro (.bp 2000 0), .ro (.sc (.int .i64 k)), .ro (.sc (.int .i64 (11 - (d : Int))))]) [(2000, .box (pkC N s.to s.bad))]
 (fun rs st => rs = [(false, [cI (pkI N d k s).1])] /\ xB st.ob [(2000, .box (pkC N (pkI N d k s).2.to (pkI N d k s).2.bad))])
theorem zoU (N : List NodeD) (hN : N.length <= 1048576) (hK : ∀ x ∈ N, x.kids.length <= 1048576) (d : Nat) (hd : d <= 10) (ih : ∀ e, e < d -> PutI N e) : PutI N d := by
 intro k s hs
 have w1 : IntKind.i64.wrap ((N.length : Int) - 1) = (N.length : Int) - 1 := w64 (by omega) (by omega)
 have stop : ∀ s, pkI N d k s = yT s -> SoundAt Tryz.prog 189 (fun uf => zq 0 [.ro (.bp 2000 0), .ro (.sc (.int .i64 k)), .ro (.sc (.int .i64 (11 - (d : Int))))]) [(2000, .box (pkC N s.to s.bad))]
     (fun rs st => rs = [(false, [cI (yT s).1])] /\ xB st.ob [(2000, .box (pkC N (yT s).2.to (yT s).2.bad))]) -> SoundAt Tryz.prog 189 (fun uf => zq 0 [.ro (.bp 2000 0), .ro (.sc (.int .i64 k)), .ro (.sc (.int .i64 (11 - (d : Int))))]) [(2000, .box (pkC N s.to s.bad))]
     (fun rs st => rs = [(false, [cI (pkI N d k s).1])] /\ xB st.ob [(2000, .box (pkC N (pkI N d k s).2.to (pkI N d k s).2.bad))]) := fun s h1 h2 => by rw [h1]; exact h2
 obtain ⟨to, sb⟩ := s
 simp only at hs
 cases sb with
 | true =>
   refine stop _ (by cases d with | zero => rfl | succ d => unfold pkI; rw [if_pos (by simp)]) ?_
   simp only [yT]
   refine zm (fn := Tryz.f189) (c := Tryz.f189.body.getD .skip) (res := [.tm 6]) (n := 97) zg (by kernel_rfl) (by rfl) (by kernel_rfl) (by rfl) (by rfl) (by simp [zq]) (fun uf ub C hpin hpin2 hfull => ?_)
   simp only [Tryz.f189, Option.getD_some]
   refine Tri.step zg ?_
   simp +decide only [pkC, hpin, hpin2, go_sem, reduceAdd, reduceMul]
   refine Tri.step zg ?_
   simp +decide only [pkC, hpin, hpin2, go_sem, reduceAdd, reduceMul]
 | false =>
 have hin := in' k 0 (N.length - 1)
 cases hi : inI k 0 (N.length - 1) with
 | false =>
   rw [hi] at hin
   refine stop _ (by cases d with | zero => rfl | succ d => unfold pkI; rw [if_pos (by simp [hi])]) ?_
   simp only [yT]
   refine zm (fn := Tryz.f189) (c := Tryz.f189.body.getD .skip) (res := [.tm 6]) (n := 97) zg (by kernel_rfl) (by rfl) (by kernel_rfl) (by rfl) (by rfl) (by simp [zq]) (fun uf ub C hpin hpin2 hfull => ?_)
   simp only [Tryz.f189, Option.getD_some]
   refine Tri.step zg ?_
   simp +decide only [pkC, hpin, hpin2, go_sem, reduceAdd, reduceMul]
   refine Tri.step zg ?_
   simp +decide only [w1, pkC, hpin, hpin2, go_sem, reduceAdd, reduceMul]
   refine ze hin hpin ?_
   simp +decide only [w1, pkC, hpin, hpin2, go_sem, reduceAdd, reduceMul]
 | true =>
 rw [hi] at hin
 have hr := zx hi
 obtain ⟨n, rfl⟩ : ∃ n : Nat, k = n := ⟨k.toNat, by omega⟩
 have hnl : n < N.length := by omega
 by_cases h10 : (10 : Int) < 11 - (d : Int)
 · have e10 : ((10 : Int) < 11 - (d : Int)) = True := eq_true h10
   have hd0 : d = 0 := by omega
   refine stop _ (by subst hd0; rfl) ?_
   simp only [yT]
   refine zm (fn := Tryz.f189) (c := Tryz.f189.body.getD .skip) (res := [.tm 6]) (n := 97) zg (by kernel_rfl) (by rfl) (by kernel_rfl) (by rfl) (by rfl) (by simp [zq]) (fun uf ub C hpin hpin2 hfull => ?_)
   simp only [Tryz.f189, Option.getD_some]
   refine Tri.step zg ?_
   simp +decide only [pkC, hpin, hpin2, go_sem, reduceAdd, reduceMul]
   refine Tri.step zg ?_
   simp +decide only [w1, pkC, hpin, hpin2, go_sem, reduceAdd, reduceMul]
   refine ze hin hpin ?_
   simp +decide only [w1, e10, gt_iff_lt, pkC, hpin, hpin2, go_sem, reduceAdd, reduceMul]
 have e10 : ((10 : Int) < 11 - (d : Int)) = False := eq_false h10
 by_cases h300 : 300 <= to.length
 · have e300 : ((300 : Int) <= (to.length : Int)) = True := eq_true (by omega)
   refine stop _ (by cases d with | zero => rfl | succ d => unfold pkI; rw [if_pos (by simp [h300])]) ?_
   simp only [yT]
   refine zm (fn := Tryz.f189) (c := Tryz.f189.body.getD .skip) (res := [.tm 6]) (n := 97) zg (by kernel_rfl) (by rfl) (by kernel_rfl) (by rfl) (by rfl) (by simp [zq]) (fun uf ub C hpin hpin2 hfull => ?_)
   simp only [Tryz.f189, Option.getD_some]
   refine Tri.step zg ?_
   simp +decide only [pkC, hpin, hpin2, go_sem, reduceAdd, reduceMul]
   refine Tri.step zg ?_
   simp +decide only [w1, pkC, hpin, hpin2, go_sem, reduceAdd, reduceMul]
   refine ze hin hpin ?_
   simp +decide only [w1, e10, e300, gt_iff_lt, ge_iff_le, pkC, hpin, hpin2, go_sem, reduceAdd, reduceMul]
 have e300 : ((300 : Int) <= (to.length : Int)) = False := eq_false (by omega)
 obtain ⟨e, rfl⟩ : ∃ e, d = e + 1 := ⟨d - 1, by omega⟩
 have wd : IntKind.i64.wrap (11 - ((e + 1 : Nat) : Int) + 1) = 11 - (e : Int) := by rw [w64 (by omega) (by omega)]; omega
 have hrec := ih e (by omega)
 unfold PutI at hrec
 have hmost := fun k s h => zab N e k s h
 have hx : (rows (zh true) N).getD n [] = zh true N[n] := zj _ _ hnl
 have hkx := hK N[n] (List.getElem_mem hnl)
 have hc1 : ((n : Int) < (N.length : Int)) = True := eq_true (by omega)
 have hpk : pkI N (e + 1) n ⟨to, false⟩ = if (runB (pkI N e) N[n].kids ⟨to, false⟩).2.bad then (-1, (runB (pkI N e) N[n].kids ⟨to, false⟩).2) else
     if decide (300 <= (runB (pkI N e) N[n].kids ⟨to, false⟩).2.to.length) then yT (runB (pkI N e) N[n].kids ⟨to, false⟩).2 else zaI N[n] (runB (pkI N e) N[n].kids ⟨to, false⟩) := by
   conv => lhs; unfold pkI
   rw [if_neg (by simp [hi]; omega), zH hnl]
 rw [hpk]
 dsimp only
 generalize N[n] = x at hx hkx
 generalize hV : pkI N e = V at hrec hmost
 obtain ⟨R, hR⟩ : ∃ R, runB V x.kids ⟨to, false⟩ = R := ⟨_, rfl⟩
 rw [hR]
 refine zm (fn := Tryz.f189) (c := Tryz.f189.body.getD .skip) (res := [.tm 6]) (n := 97) zg (by kernel_rfl) (by rfl) (by kernel_rfl) (by rfl) (by rfl) (by simp [zq]) (fun uf ub C hpin hpin2 hfull => ?_)
 simp only [Tryz.f189, Option.getD_some]
 refine Tri.step zg ?_
 simp +decide only [pkC, hpin, hpin2, go_sem, reduceAdd, reduceMul]
 refine Tri.step zg ?_
 simp +decide only [w1, pkC, hpin, hpin2, go_sem, reduceAdd, reduceMul]
 refine ze hin hpin ?_
 simp +decide only [w1, e10, e300, gt_iff_lt, ge_iff_le, pkC, hpin, hpin2, go_sem, reduceAdd, reduceMul]
 refine Tri.step zg ?_
 simp +decide only [hc1, hx, zh, Int.natCast_nonneg, pkC, hpin, hpin2, go_sem, reduceAdd, reduceMul]
 refine Tri.step zg ?_
 simp +decide only [pkC, hpin, hpin2, go_sem, reduceAdd, reduceMul]
 refine Tri.ent ?_ (Ent.own 8 3 8 (hpin 8 rfl))
 refine Tri.step zg ?_
 simp +decide only [pkC, hpin, hpin2, go_sem, reduceAdd, reduceMul]
 refine Tri.loop (ι := Nat × List Int × PkS) (fun q => q.1 <= x.kids.length /\ q.2.1.length = q.1 /\ q.2.2.bad = false /\ q.2.2.to.length <= 300 /\ R = (q.2.1 ++ (runB V (x.kids.drop q.1) q.2.2).1, (runB V (x.kids.drop q.1) q.2.2).2))
   (fun q => ⟨97, [(0, .bp 2000 0), (2, vI (11 - ((e + 1 : Nat) : Int))), (7, .bp 7 0), (8, .ref 8 [] q.1), (50, roI x.kids), (51, vI x.kids.length), (52, vI q.1)], [(8, .row 3 (row1 cI q.2.1)), (7, .box (zh true x)), (2000, .box (pkC N q.2.2.to q.2.2.bad))]⟩) (fun q => x.kids.length - q.1) (0, [], ⟨to, false⟩) ⟨by simp, rfl, rfl, hs, by simp [<- hR]⟩ ?_ ?_
 · refine Ent.weak ?_ ?_ ?_ ?_ <;> simp +decide [ye, subT, subB, zl, zk, zn, St.get, look, vI, vB, vS, cI, cS, cB, zh, pkC, roI, row1]
 · rintro ⟨i, acc, tt, tb⟩ ⟨hi2, hal, htb, htl, hRe⟩
   simp only at hi2 hal htb htl hRe |-
   subst htb
   refine zf zg _ ?_
   by_cases h' : i < x.kids.length
   · have e1 : ((i : Int) < (x.kids.length : Int)) = True := by simp [h']
     rw [zhb V h' rfl] at hRe
     have hcall := hrec x.kids[i] ⟨tt, false⟩ htl
     have htl2 := hmost x.kids[i] ⟨tt, false⟩ htl
     generalize V x.kids[i] ⟨tt, false⟩ = r at hRe hcall htl2
     obtain ⟨ra, t2, t2b⟩ := r
     simp only at hRe hcall htl2
     simp only [pkC, cI] at hcall
     have hb1 : i + 1 <= 140737488355328 := by omega
     have hb2 : (i + 1) * 8 <= 140737488355328 := by omega
     have hsn := zdn cI acc ra
     simp only [cI] at hsn
     have hal2 : (acc ++ [ra]).length = i + 1 := by simp [hal]
     simp +decide only [e1, h', wd, hal, zr _ _ h', zh, Int.natCast_nonneg, vB, vI, pkC, hpin, hpin2, go_sem, reduceAdd, reduceMul]
     refine yE hcall hpin hfull [(2000, 2000)] [] [(2000, 2000)] ⟨rfl, rfl, rfl, rfl⟩ (fun uf => ?_) ?_
     · simp +decide only [pkC, hpin, hpin2, go_sem, reduceAdd, reduceMul]
     cases t2b with
     | true =>
       rw [YW V _ rfl] at hRe
       simp only at hRe
       have hR2 : R.2 = ⟨t2, true⟩ := by rw [hRe]
       rw [hR2]
       simp +decide only [pkC, hpin, hpin2, go_sem, reduceAdd, reduceMul]
     | false =>
       simp +decide only [hal, hal2, hb1, hb2, hsn, pkC, hpin, hpin2, go_sem, reduceAdd, reduceMul]
       refine ⟨(i + 1, acc ++ [ra], ⟨t2, false⟩), ⟨h', by simp [hal], rfl, htl2, by rw [hRe]; simp⟩, by show x.kids.length - (i + 1) < x.kids.length - i; omega, Ent.weak ?_ ?_ ?_ ?_⟩
       all_goals simp +decide [ye, subT, subB, zl, zk, zn, St.get, look, vI, vB, vS, cI, cS, cB, zh, pkC, roI, hsn, hal, w64s (n := x.kids.length) h' (by omega)]
   · have hil : i = x.kids.length := by omega
     subst hil
     have e1 : ((x.kids.length : Int) < (x.kids.length : Int)) = False := by simp
     rw [List.drop_length] at hRe
     simp only [runB, List.append_nil] at hRe
     subst hRe
     simp only
     rw [if_neg (by simp)]
     by_cases g300 : 300 <= tt.length
     · have f300 : ((300 : Int) <= (tt.length : Int)) = True := eq_true (by omega)
       have d300 : decide ((300 : Int) <= (tt.length : Int)) = true := decide_eq_true (by omega)
       rw [if_pos (by simpa using g300)]
       unfold yT
       simp +decide only [e1, ge_iff_le, vB, vI, pkC, hpin, hpin2, go_sem, reduceAdd, reduceMul]
       refine Tri.step zg ?_
       simp +decide only [f300, ge_iff_le, pkC, hpin, hpin2, go_sem, reduceAdd, reduceMul]
     · have f300 : ((300 : Int) <= (tt.length : Int)) = False := eq_false (by omega)
       have d300 : decide ((300 : Int) <= (tt.length : Int)) = false := decide_eq_false (by omega)
       rw [if_neg (by simpa using g300)]
       unfold zaI
       have hsn := YH tt ⟨x.kind, x.num, x.name, acc⟩
       have hb1 : tt.length + 1 <= 140737488355328 := by omega
       have hb2 : (tt.length + 1) * 56 <= 140737488355328 := by omega
       have w2 : IntKind.i64.wrap (((tt.length + 1 : Nat) : Int) - 1) = tt.length := by rw [show (((tt.length + 1 : Nat) : Int) - 1) = tt.length by omega]; exact w64 (by omega) (by omega)
       simp +decide only [e1, ge_iff_le, vB, vI, pkC, hpin, hpin2, go_sem, reduceAdd, reduceMul]
       refine Tri.step zg ?_
       simp +decide only [f300, ge_iff_le, pkC, hpin, hpin2, go_sem, reduceAdd, reduceMul]
       refine Tri.step zg ?_
       simp +decide only [hal, zh, pkC, hpin, hpin2, go_sem, reduceAdd, reduceMul]
       refine Tri.step zg ?_
       refine Tri.fork zg (.one 0 true (.one 1 true (.one 2 true (.one 3 true (.two 4 (.one 5 false (.one 6 false (.one 7 false (.one 8 false (.one 9 false (.one 10 false .done)))))) 5 (.two 4 (.one 6 false (.one 7 false (.one 8 false (.one 9 false (.one 10 false .done))))) 6 (.one 4 false (.one 7 false (.one 8 false (.one 9 false (.one 10 false .done))))))))))) zT (by kernel_rfl) (fun C2 hC2 => ?_)
       have hp2 := zU hC2 hpin
       simp +decide only [hb1, hb2, hsn, pkC, hp2, hpin, hpin2, go_sem, reduceAdd, reduceMul]
       refine ⟨?_, ?_, ?_⟩ <;> refine zf zg _ ?_
       all_goals simp +decide only [w2, pkC, hpin, hpin2, go_sem, reduceAdd, reduceMul]
theorem zkF (N : List NodeD) (hN : N.length <= 1048576) (hK : ∀ x ∈ N, x.kids.length <= 1048576) (d : Nat) (hd : d <= 10) : PutI N d := by
 induction d using Nat.strongRecOn with
 | ind d ih => exact zoU N hN hK d hd (fun e he => ih e he (by omega))
def PutR (N : List NodeD) (d : Nat) : Prop := ∀ (k : Int) (s : PkS), s.to.length <= 400 -> SoundAt Tryz.prog 186 (fun uf => zq 0 [.ro (.bp 2000 0), .ro (.sc (.int .i64 k)), .ro (.sc (.int .i64 (11 - (d : Int))))]) [(2000, .box (pkC N s.to s.bad))]
 (fun rs st => rs = [(false, [cI (pkR N d k s).1])] /\ xB st.ob [(2000, .box (pkC N (pkR N d k s).2.to (pkR N d k s).2.bad))])
theorem zoT (N : List NodeD) (hN : N.length <= 1048576) (hK : ∀ x ∈ N, x.kids.length <= 1048576) (d : Nat) (hd : d <= 10) (ih : ∀ e, e < d -> PutR N e) : PutR N d := by
 intro k s hs
 have w1 : IntKind.i64.wrap ((N.length : Int) - 1) = (N.length : Int) - 1 := w64 (by omega) (by omega)
 have stop : ∀ s, pkR N d k s = yT s -> SoundAt Tryz.prog 186 (fun uf => zq 0 [.ro (.bp 2000 0), .ro (.sc (.int .i64 k)), .ro (.sc (.int .i64 (11 - (d : Int))))]) [(2000, .box (pkC N s.to s.bad))]
     (fun rs st => rs = [(false, [cI (yT s).1])] /\ xB st.ob [(2000, .box (pkC N (yT s).2.to (yT s).2.bad))]) -> SoundAt Tryz.prog 186 (fun uf => zq 0 [.ro (.bp 2000 0), .ro (.sc (.int .i64 k)), .ro (.sc (.int .i64 (11 - (d : Int))))]) [(2000, .box (pkC N s.to s.bad))]
     (fun rs st => rs = [(false, [cI (pkR N d k s).1])] /\ xB st.ob [(2000, .box (pkC N (pkR N d k s).2.to (pkR N d k s).2.bad))]) := fun s h1 h2 => by rw [h1]; exact h2
 obtain ⟨to, sb⟩ := s
 simp only at hs
 cases sb with
 | true =>
   refine stop _ (by cases d with | zero => rfl | succ d => unfold pkR; rw [if_pos (by simp)]) ?_
   simp only [yT]
   refine zm (fn := Tryz.f186) (c := Tryz.f186.body.getD .skip) (res := [.tm 6]) (n := 122) zg (by kernel_rfl) (by rfl) (by kernel_rfl) (by rfl) (by rfl) (by simp [zq]) (fun uf ub C hpin hpin2 hfull => ?_)
   simp only [Tryz.f186, Option.getD_some]
   refine Tri.step zg ?_
   simp +decide only [pkC, hpin, hpin2, go_sem, reduceAdd, reduceMul]
   refine Tri.step zg ?_
   simp +decide only [pkC, hpin, hpin2, go_sem, reduceAdd, reduceMul]
 | false =>
 by_cases h10 : (10 : Int) < 11 - (d : Int)
 · have e10 : ((10 : Int) < 11 - (d : Int)) = True := eq_true h10
   have hd0 : d = 0 := by omega
   refine stop _ (by subst hd0; rfl) ?_
   simp only [yT]
   refine zm (fn := Tryz.f186) (c := Tryz.f186.body.getD .skip) (res := [.tm 6]) (n := 122) zg (by kernel_rfl) (by rfl) (by kernel_rfl) (by rfl) (by rfl) (by simp [zq]) (fun uf ub C hpin hpin2 hfull => ?_)
   simp only [Tryz.f186, Option.getD_some]
   refine Tri.step zg ?_
   simp +decide only [pkC, hpin, hpin2, go_sem, reduceAdd, reduceMul]
   refine Tri.step zg ?_
   simp +decide only [e10, gt_iff_lt, pkC, hpin, hpin2, go_sem, reduceAdd, reduceMul]
 have e10 : ((10 : Int) < 11 - (d : Int)) = False := eq_false h10
 have hin := xH k 0 (N.length - 1)
 cases hi : inI k 0 (N.length - 1) with
 | false =>
   rw [hi] at hin
   refine stop _ (by cases d with | zero => rfl | succ d => unfold pkR; rw [if_pos (by simp [hi])]) ?_
   simp only [yT]
   refine zm (fn := Tryz.f186) (c := Tryz.f186.body.getD .skip) (res := [.tm 6]) (n := 122) zg (by kernel_rfl) (by rfl) (by kernel_rfl) (by rfl) (by rfl) (by simp [zq]) (fun uf ub C hpin hpin2 hfull => ?_)
   simp only [Tryz.f186, Option.getD_some]
   refine Tri.step zg ?_
   simp +decide only [pkC, hpin, hpin2, go_sem, reduceAdd, reduceMul]
   refine Tri.step zg ?_
   simp +decide only [e10, gt_iff_lt, w1, pkC, hpin, hpin2, go_sem, reduceAdd, reduceMul]
   refine ze hin hpin ?_
   simp +decide only [w1, pkC, hpin, hpin2, go_sem, reduceAdd, reduceMul]
 | true =>
 rw [hi] at hin
 have hr := zx hi
 obtain ⟨n, rfl⟩ : ∃ n : Nat, k = n := ⟨k.toNat, by omega⟩
 have hnl : n < N.length := by omega
 by_cases h300 : 300 < to.length
 · have e300 : ((300 : Int) < (to.length : Int)) = True := eq_true (by omega)
   refine stop _ (by cases d with | zero => rfl | succ d => unfold pkR; rw [if_pos (by simp [h300])]) ?_
   simp only [yT]
   refine zm (fn := Tryz.f186) (c := Tryz.f186.body.getD .skip) (res := [.tm 6]) (n := 122) zg (by kernel_rfl) (by rfl) (by kernel_rfl) (by rfl) (by rfl) (by simp [zq]) (fun uf ub C hpin hpin2 hfull => ?_)
   simp only [Tryz.f186, Option.getD_some]
   refine Tri.step zg ?_
   simp +decide only [pkC, hpin, hpin2, go_sem, reduceAdd, reduceMul]
   refine Tri.step zg ?_
   simp +decide only [w1, e10, gt_iff_lt, pkC, hpin, hpin2, go_sem, reduceAdd, reduceMul]
   refine ze hin hpin ?_
   simp +decide only [w1, e10, e300, gt_iff_lt, pkC, hpin, hpin2, go_sem, reduceAdd, reduceMul]
 have e300 : ((300 : Int) < (to.length : Int)) = False := eq_false (by omega)
 obtain ⟨e, rfl⟩ : ∃ e, d = e + 1 := ⟨d - 1, by omega⟩
 have wd : IntKind.i64.wrap (11 - ((e + 1 : Nat) : Int) + 1) = 11 - (e : Int) := by rw [w64 (by omega) (by omega)]; omega
 have hrec := ih e (by omega)
 unfold PutR at hrec
 have hmost := fun k s h => zmf N e k s 320 (by omega) h
 have hx : (rows (zh true) N).getD n [] = zh true N[n] := zj _ _ hnl
 have hkx := hK N[n] (List.getElem_mem hnl)
 have hc1 : ((n : Int) < (N.length : Int)) = True := eq_true (by omega)
 have hpk : pkR N (e + 1) n ⟨to, false⟩ = zaI N[n] (runB (pkR N e) N[n].kids ⟨to, false⟩) := by
   conv => lhs; unfold pkR
   rw [if_neg (by simp [hi]; omega), zH hnl]
 rw [hpk]
 dsimp only
 generalize N[n] = x at hx hkx
 generalize hV : pkR N e = V at hrec hmost
 obtain ⟨R, hR⟩ : ∃ R, runB V x.kids ⟨to, false⟩ = R := ⟨_, rfl⟩
 rw [hR]
 unfold zaI
 refine zm (fn := Tryz.f186) (c := Tryz.f186.body.getD .skip) (res := [.tm 6]) (n := 122) zg (by kernel_rfl) (by rfl) (by kernel_rfl) (by rfl) (by rfl) (by simp [zq]) (fun uf ub C hpin hpin2 hfull => ?_)
 simp only [Tryz.f186, Option.getD_some]
 refine Tri.step zg ?_
 simp +decide only [pkC, hpin, hpin2, go_sem, reduceAdd, reduceMul]
 refine Tri.step zg ?_
 simp +decide only [w1, e10, gt_iff_lt, pkC, hpin, hpin2, go_sem, reduceAdd, reduceMul]
 refine ze hin hpin ?_
 simp +decide only [w1, e10, e300, gt_iff_lt, pkC, hpin, hpin2, go_sem, reduceAdd, reduceMul]
 refine Tri.stop zg ⟨122, [(0, .bp 2000 0), (1, vI n), (2, vI (11 - ((e + 1 : Nat) : Int))), (7, .bp 7 0)], [(7, .box [cI x.kind, cI x.num, cS x.name, .sc (.slice none 0 0)]), (2000, .box (pkC N to false))]⟩ ?_ ?_
 · refine Tri.many zg [0, 1, 2, 4, 8, 9, 10, 12, 16, 17, 18, 20] [(3, (.one 5 true (.one 6 true (.one 7 true (.three 11 (.one 13 true (.one 14 true (.one 15 true (.two 19 (.one 21 true (.one 22 true (.one 23 true (.one 24 true (.one 25 false (.one 26 false .done)))))) 25 (.one 19 false (.one 21 false (.one 22 false (.one 23 false (.one 24 false (.one 26 false .done)))))))))) 19 (.one 21 true (.one 22 true (.one 23 true (.two 11 (.one 13 true (.one 14 true (.one 15 true (.one 24 true (.one 25 false (.one 26 false .done)))))) 25 (.one 11 false (.one 13 false (.one 14 false (.one 15 false (.one 24 false (.one 26 false .done)))))))))) 25 (.two 11 (.one 13 true (.one 14 true (.one 15 true (.one 19 false (.one 21 false (.one 22 false (.one 23 false (.one 24 false (.one 26 false .done))))))))) 19 (.one 21 true (.one 22 true (.one 23 true (.one 11 false (.one 13 false (.one 14 false (.one 15 false (.one 24 false (.one 26 false .done))))))))))))))), (11, (.one 13 true (.one 14 true (.one 15 true (.three 3 (.one 5 true (.one 6 true (.one 7 true (.two 19 (.one 21 true (.one 22 true (.one 23 true (.one 24 true (.one 25 false (.one 26 false .done)))))) 25 (.one 19 false (.one 21 false (.one 22 false (.one 23 false (.one 24 false (.one 26 false .done)))))))))) 19 (.one 21 true (.one 22 true (.one 23 true (.two 3 (.one 5 true (.one 6 true (.one 7 true (.one 24 true (.one 25 false (.one 26 false .done)))))) 25 (.one 3 false (.one 5 false (.one 6 false (.one 7 false (.one 24 false (.one 26 false .done)))))))))) 25 (.two 3 (.one 5 true (.one 6 true (.one 7 true (.one 19 false (.one 21 false (.one 22 false (.one 23 false (.one 24 false (.one 26 false .done))))))))) 19 (.one 21 true (.one 22 true (.one 23 true (.one 3 false (.one 5 false (.one 6 false (.one 7 false (.one 24 false (.one 26 false .done))))))))))))))), (19, (.one 21 true (.one 22 true (.one 23 true (.three 3 (.one 5 true (.one 6 true (.one 7 true (.two 11 (.one 13 true (.one 14 true (.one 15 true (.one 24 true (.one 25 false (.one 26 false .done)))))) 25 (.one 11 false (.one 13 false (.one 14 false (.one 15 false (.one 24 false (.one 26 false .done)))))))))) 11 (.one 13 true (.one 14 true (.one 15 true (.two 3 (.one 5 true (.one 6 true (.one 7 true (.one 24 true (.one 25 false (.one 26 false .done)))))) 25 (.one 3 false (.one 5 false (.one 6 false (.one 7 false (.one 24 false (.one 26 false .done)))))))))) 25 (.two 3 (.one 5 true (.one 6 true (.one 7 true (.one 11 false (.one 13 false (.one 14 false (.one 15 false (.one 24 false (.one 26 false .done))))))))) 11 (.one 13 true (.one 14 true (.one 15 true (.one 3 false (.one 5 false (.one 6 false (.one 7 false (.one 24 false (.one 26 false .done))))))))))))))), (25, (.three 3 (.one 5 true (.one 6 true (.one 7 true (.two 11 (.one 13 true (.one 14 true (.one 15 true (.one 19 false (.one 21 false (.one 22 false (.one 23 false (.one 24 false (.one 26 false .done))))))))) 19 (.one 21 true (.one 22 true (.one 23 true (.one 11 false (.one 13 false (.one 14 false (.one 15 false (.one 24 false (.one 26 false .done))))))))))))) 11 (.one 13 true (.one 14 true (.one 15 true (.two 3 (.one 5 true (.one 6 true (.one 7 true (.one 19 false (.one 21 false (.one 22 false (.one 23 false (.one 24 false (.one 26 false .done))))))))) 19 (.one 21 true (.one 22 true (.one 23 true (.one 3 false (.one 5 false (.one 6 false (.one 7 false (.one 24 false (.one 26 false .done))))))))))))) 19 (.one 21 true (.one 22 true (.one 23 true (.two 3 (.one 5 true (.one 6 true (.one 7 true (.one 11 false (.one 13 false (.one 14 false (.one 15 false (.one 24 false (.one 26 false .done))))))))) 11 (.one 13 true (.one 14 true (.one 15 true (.one 3 false (.one 5 false (.one 6 false (.one 7 false (.one 24 false (.one 26 false .done)))))))))))))))] zT (by kernel_rfl) (fun C2 hC2 => ?_)
   have hp2 := zU hC2 hpin
   simp +decide only [hc1, hx, zh, Int.natCast_nonneg, pkC, hp2, hpin, hpin2, go_sem, reduceAdd, reduceMul]
   repeat' (refine And.intro ?_ ?_)
   all_goals refine Ent.weak ?_ ?_ ?_ ?_
   all_goals simp +decide [ye, subT, subB, zl, zk, zn, St.get, look, vI, vB, vS, cI, cS, cB, zh, pkC, roI]
 refine Tri.ent ?_ (Ent.nilr 7 3 3)
 refine Tri.step zg ?_
 simp +decide only [pkC, hpin, hpin2, go_sem, reduceAdd, reduceMul]
 refine Tri.loop (ι := Nat × List Int × PkS) (fun q => q.1 <= x.kids.length /\ q.2.1.length = q.1 /\ q.2.2.to.length <= 320 /\ R = (q.2.1 ++ (runB V (x.kids.drop q.1) q.2.2).1, (runB V (x.kids.drop q.1) q.2.2).2))
   (fun q => ⟨122, [(0, .bp 2000 0), (1, vI n), (2, vI (11 - ((e + 1 : Nat) : Int))), (7, .bp 7 0), (8, vI q.1)], [(7, .box [cI x.kind, cI x.num, cS x.name, .row false 3 (row1 cI q.2.1)]), (2000, .box (pkC N q.2.2.to q.2.2.bad))]⟩) (fun q => x.kids.length - q.1) (0, [], ⟨to, false⟩) ⟨by simp, rfl, by simp only; omega, by simp [<- hR]⟩ ?_ ?_
 · refine Ent.weak ?_ ?_ ?_ ?_ <;> simp +decide [ye, subT, subB, zl, zk, zn, St.get, look, vI, vB, vS, cI, cS, cB, zh, pkC, roI, row1]
 · rintro ⟨i, acc, tt, tb⟩ ⟨hi2, hal, htl, hRe⟩
   simp only at hi2 hal htl hRe |-
   have hdel : (List.drop i x.kids) = [] \/ i < x.kids.length := by
     by_cases h : i < x.kids.length
     · exact Or.inr h
     · exact Or.inl (List.drop_eq_nil_of_le (by omega))
   refine zf zg _ ?_
   by_cases h' : i < x.kids.length
   · have e1 : ((i : Int) < (x.kids.length : Int)) = True := by simp [h']
     cases tb with
     | true =>
       rw [YW V _ rfl] at hRe
       simp only [List.append_nil] at hRe
       simp +decide only [hc1, hx, e1, zh, Int.natCast_nonneg, vB, vI, pkC, hpin, hpin2, go_sem, reduceAdd, reduceMul]
       subst hRe
       have hsn := YH tt ⟨x.kind, x.num, x.name, acc⟩
       have hb1 : tt.length + 1 <= 140737488355328 := by omega
       have hb2 : (tt.length + 1) * 56 <= 140737488355328 := by omega
       have w2 : IntKind.i64.wrap (((tt.length + 1 : Nat) : Int) - 1) = tt.length := by rw [show (((tt.length + 1 : Nat) : Int) - 1) = tt.length by omega]; exact w64 (by omega) (by omega)
       refine Tri.step zg ?_
       refine Tri.fork zg (.one 0 true (.one 1 true (.one 2 true (.one 3 true (.two 4 (.one 5 false (.one 6 false (.one 7 false (.one 8 false (.one 9 false (.one 10 false .done)))))) 5 (.two 4 (.one 6 false (.one 7 false (.one 8 false (.one 9 false (.one 10 false .done))))) 6 (.one 4 false (.one 7 false (.one 8 false (.one 9 false (.one 10 false .done))))))))))) zT (by kernel_rfl) (fun C2 hC2 => ?_)
       have hp2 := zU hC2 hpin
       simp +decide only [hb1, hb2, hsn, pkC, hp2, hpin, hpin2, go_sem, reduceAdd, reduceMul]
       refine ⟨?_, ?_, ?_⟩ <;> refine zf zg _ ?_
       all_goals simp +decide only [w2, pkC, hpin, hpin2, go_sem, reduceAdd, reduceMul]
     | false =>
     rw [zhb V h' rfl] at hRe
     have hcall := hrec x.kids[i] ⟨tt, false⟩ (by simp only; omega)
     have htl2 := hmost x.kids[i] ⟨tt, false⟩ htl
     generalize V x.kids[i] ⟨tt, false⟩ = r at hRe hcall htl2
     obtain ⟨ra, t2⟩ := r
     simp only at hRe hcall htl2
     simp only [pkC, cI] at hcall
     have hb1 : i + 1 <= 140737488355328 := by omega
     have hb2 : (i + 1) * 8 <= 140737488355328 := by omega
     have hsn := zdn cI acc ra
     simp only [cI] at hsn
     have hal2 : (acc ++ [ra]).length = i + 1 := by simp [hal]
     simp +decide only [hc1, hx, e1, h', wd, hal, zr _ _ h', zh, Int.natCast_nonneg, vB, vI, pkC, hpin, hpin2, go_sem, reduceAdd, reduceMul]
     refine yE hcall hpin hfull [(2000, 2000)] [] [(2000, 2000)] ⟨rfl, rfl, rfl, rfl⟩ (fun uf => ?_) ?_
     · simp +decide only [pkC, hpin, hpin2, go_sem, reduceAdd, reduceMul]
     simp +decide only [hal, hal2, hb1, hb2, hsn, pkC, hpin, hpin2, go_sem, reduceAdd, reduceMul]
     refine ⟨(i + 1, acc ++ [ra], t2), ⟨h', by simp [hal], htl2, by rw [hRe]; simp⟩, by show x.kids.length - (i + 1) < x.kids.length - i; omega, Ent.weak ?_ ?_ ?_ ?_⟩
     all_goals simp +decide [ye, subT, subB, zl, zk, zn, St.get, look, vI, vB, vS, cI, cS, cB, zh, pkC, roI, hsn, hal, w64s (n := x.kids.length) h' (by omega)]
   · have hil : i = x.kids.length := by omega
     subst hil
     have e1 : ((x.kids.length : Int) < (x.kids.length : Int)) = False := by simp
     rw [List.drop_length] at hRe
     simp only [runB, List.append_nil] at hRe
     simp +decide only [hc1, hx, e1, zh, Int.natCast_nonneg, vB, vI, pkC, hpin, hpin2, go_sem, reduceAdd, reduceMul]
     subst hRe
     have hsn := YH tt ⟨x.kind, x.num, x.name, acc⟩
     have hb1 : tt.length + 1 <= 140737488355328 := by omega
     have hb2 : (tt.length + 1) * 56 <= 140737488355328 := by omega
     have w2 : IntKind.i64.wrap (((tt.length + 1 : Nat) : Int) - 1) = tt.length := by rw [show (((tt.length + 1 : Nat) : Int) - 1) = tt.length by omega]; exact w64 (by omega) (by omega)
     refine Tri.step zg ?_
     refine Tri.fork zg (.one 0 true (.one 1 true (.one 2 true (.one 3 true (.two 4 (.one 5 false (.one 6 false (.one 7 false (.one 8 false (.one 9 false (.one 10 false .done)))))) 5 (.two 4 (.one 6 false (.one 7 false (.one 8 false (.one 9 false (.one 10 false .done))))) 6 (.one 4 false (.one 7 false (.one 8 false (.one 9 false (.one 10 false .done))))))))))) zT (by kernel_rfl) (fun C2 hC2 => ?_)
     have hp2 := zU hC2 hpin
     simp +decide only [hb1, hb2, hsn, pkC, hp2, hpin, hpin2, go_sem, reduceAdd, reduceMul]
     refine ⟨?_, ?_, ?_⟩ <;> refine zf zg _ ?_
     all_goals simp +decide only [w2, pkC, hpin, hpin2, go_sem, reduceAdd, reduceMul]
theorem zkE (N : List NodeD) (hN : N.length <= 1048576) (hK : ∀ x ∈ N, x.kids.length <= 1048576) (d : Nat) (hd : d <= 10) : PutR N d := by
 induction d using Nat.strongRecOn with
 | ind d ih => exact zoT N hN hK d hd (fun e he => ih e he (by omega))
def szF (nodes : List NodeD) : Nat -> Int -> Nat
 | 0, _ => 0
 | d + 1, k => 3 + (nAt nodes k).kids.length + sumN (szF nodes d) (nAt nodes k).kids
def szB (nodes : List NodeD) (k : Int) : Nat := szF nodes (k.toNat + 1) k
structure LowD where
 locs : List Int
 words : List InsD
def LowD.le (s s2 : LowD) (b : Nat) : Prop := s.locs.length <= s2.locs.length /\ s2.locs.length <= s.locs.length + b /\ s.words.length <= s2.words.length /\ s2.words.length <= s.words.length + b
theorem LowD.le.trans {s s2 s3 : LowD} {a b : Nat} (h : s.le s2 a) (h2 : s2.le s3 b) : s.le s3 (a + b) := by
 obtain ⟨p1, p2, p3, p4⟩ := h
 obtain ⟨q1, q2, q3, q4⟩ := h2
 exact ⟨by omega, by omega, by omega, by omega⟩
theorem LowD.le.mono {s s2 : LowD} {a b : Nat} (h : s.le s2 a) (h2 : a <= b) : s.le s2 b := ⟨h.1, by have := h.2.1; omega, h.2.2.1, by have := h.2.2.2; omega⟩
theorem LowD.le.refl (s : LowD) : s.le s 0 := ⟨by omega, by omega, by omega, by omega⟩
theorem zrw : fo Tryz.prog 145 0 = some 0 := by kernel_rfl
theorem zrv : fo Tryz.prog 145 1 = some 2 := by kernel_rfl
theorem zru : fo Tryz.prog 145 2 = some 3 := by kernel_rfl
theorem rLow : isR Tryz.prog 145 = some true := by kernel_rfl
theorem sLow : szT Tryz.prog 145 = 7 := by kernel_rfl
theorem zLow : zeroCells Tryz.prog 145 = some [.slice none 0 0, .slice none 0 0, .slice none 0 0, .string ⟨#[]⟩, .int .i64 0, .slice none 0 0, .slice none 0 0] := by kernel_rfl
theorem zri : xJ Tryz.prog 145 = some [(0, 2), (2, 1), (3, 4)] := by kernel_rfl
attribute [go_sem] zrw zrv zru rLow sLow zLow zri
def LetsIn (p : ProgramD) (l : List VarD) (n : Nat) : Prop := ∀ m, Reach p.nodes n m -> (nAt p.nodes m).kind = 13 -> 0 <= yC l (nAt p.nodes m).name
theorem LetsIn.kid {p : ProgramD} {l : List VarD} {n : Nat} (h : LetsIn p l n) (hn : n < p.nodes.length) {k : Int} (hk : k ∈ p.nodes[n].kids) : LetsIn p l k.toNat := fun m hm h13 => h m ((Reach.step (.refl n) hn hk).trans hm) h13
theorem LetsIn.own {p : ProgramD} {l : List VarD} {n : Nat} (hD : Deep p.nodes) (h : LetsIn p l n) (hn : n < p.nodes.length) : ∀ k ∈ p.nodes[n].kids, (nAt p.nodes k).kind = 13 -> 0 <= yC l (nAt p.nodes k).name := fun k hk h13 => by
 obtain ⟨q0, q1, q2⟩ := hD.kid hn k hk
 have := h.kid hn hk k.toNat (.refl _)
 rw [show ((k.toNat : Nat) : Int) = k by omega] at this
 exact this h13
set_option maxHeartbeats 4000000
set_option maxHeartbeats 8000000
section
variable {P : Program} {f : FuncId}
def nilD (d d' : D) : Prop := d' = d \/ (d = .sc (.slice none 0 0) /\ ∃ e, d' = .row false e [])
def nilR (r r' : RV) : Prop := r.1 = r'.1 /\ r.2.length = r'.2.length /\ ∀ (j : Nat) (d d' : D), r.2[j]? = some d -> r'.2[j]? = some d' -> nilD d d'
def nilRs (rs rs' : List RV) : Prop := rs.length = rs'.length /\ ∀ (i : Nat) (r r' : RV), rs[i]? = some r -> rs'[i]? = some r' -> nilR r r'
theorem SoundAt.nilRs {ts : (Nat -> Value) -> List V} {ob0 : List (Nat × Ob)} {post post' : List RV -> St -> Prop} (hs : SoundAt P f ts ob0 post) (h : ∀ rs st, post rs st -> ∃ rs', nilRs rs rs' /\ post' rs' st) : SoundAt P f ts ob0 post' := by
 refine ⟨hs.1, fun uf ub C w gh us h1 h2 h3 h4 h5 h6 => (hs.2 uf ub C w gh us h1 h2 h3 h4 h5 h6).mono (fun e w' he => ?_)⟩
 obtain ⟨vs, rs, st', a', gh', G, rfl, hp, hres, hrep⟩ := he
 obtain ⟨rs', ⟨hn, hr⟩, hp'⟩ := h rs st' hp
 have back : ∀ (i : Nat) (r' : RV), rs'[i]? = some r' -> ∃ r, rs[i]? = some r /\ nilR r r' := fun i r' hi => by
   have hl : i < rs.length := by rw [hn]; exact (List.getElem?_eq_some_iff.1 hi).1
   exact ⟨rs[i], List.getElem?_eq_getElem hl, hr i _ _ (List.getElem?_eq_getElem hl) hi⟩
 have backd : ∀ {r r' : RV} (h : nilR r r') (j : Nat) (d' : D), r'.2[j]? = some d' -> ∃ d, r.2[j]? = some d /\ nilD d d' := fun {r r'} h j d' hj => by
   have hl : j < r.2.length := by rw [h.2.1]; exact (List.getElem?_eq_some_iff.1 hj).1
   exact ⟨r.2[j], List.getElem?_eq_getElem hl, h.2.2 j _ _ (List.getElem?_eq_getElem hl) hj⟩
 have hin : Yv rs' G = Yv rs G := by
   funext k
   apply propext
   constructor
   · rintro ⟨i, j, r', d', hi, hj, hk⟩
     obtain ⟨r, hi2, hrr⟩ := back i r' hi
     obtain ⟨d, hj2, _⟩ := backd hrr j d' hj
     exact ⟨i, j, r, d, hi2, hj2, hk⟩
   · rintro ⟨i, j, r, d, hi, hj, hk⟩
     have hl : i < rs'.length := by rw [<- hn]; exact (List.getElem?_eq_some_iff.1 hi).1
     have hrr := hr i _ _ hi (List.getElem?_eq_getElem hl)
     have hl2 : j < (rs'[i]).2.length := by rw [<- hrr.2.1]; exact (List.getElem?_eq_some_iff.1 hj).1
     exact ⟨i, j, rs'[i], (rs'[i]).2[j], List.getElem?_eq_getElem hl, List.getElem?_eq_getElem hl2, hk⟩
 refine ⟨vs, rs', st', a', gh', G, rfl, hp', ?_, by rw [hin]; exact hrep⟩
 refine ⟨by rw [<- hn]; exact hres.len, fun i r' v hi hv h1 => ?_, fun i r' v hi hv h1 => ?_, fun i r' v hi hv => ?_, hres.c1, fun i r' v j d' hi hv hj => ?_, fun i j i' j' r r' d d' k hi hj hi' hj' h1 h2 => ?_⟩
 · obtain ⟨r, hi2, hrr⟩ := back i r' hi
   exact hres.one i r v hi2 hv (by rw [hrr.1]; exact h1)
 · obtain ⟨r, hi2, hrr⟩ := back i r' hi
   exact hres.agg i r v hi2 hv (by rw [hrr.1]; exact h1)
 · obtain ⟨r, hi2, hrr⟩ := back i r' hi
   rw [hres.sz i r v hi2 hv, hrr.2.1]
 · obtain ⟨r, hi2, hrr⟩ := back i r' hi
   obtain ⟨d, hj2, hd⟩ := backd hrr j d' hj
   have how := hres.ow i r v j d hi2 hv hj2
   rcases hd with rfl | ⟨rfl, e, rfl⟩
   · exact how
   · exact how.nilr
 · obtain ⟨r0, hi2, hrr⟩ := back i r hi
   obtain ⟨d0, hj2, _⟩ := backd hrr j d hj
   obtain ⟨r1, hi3, hrr1⟩ := back i' r' hi'
   obtain ⟨d1, hj3, _⟩ := backd hrr1 j' d' hj'
   exact hres.dis i j i' j' r0 r1 d0 d1 k hi2 hj2 hi3 hj3 h1 h2
end
theorem zmn (d : D) : nilD d d := Or.inl rfl
theorem zhI (r : RV) : nilR r r := ⟨rfl, rfl, fun j d d' h1 h2 => by rw [h1] at h2; cases h2; exact zmn _⟩
theorem zlo (b : Bool) : nilRs [(true, [.sc (.slice none 0 0), .sc (.slice none 0 0)]), (false, [cB b])] [(true, za false ⟨[], []⟩), (false, [cB b])] := by
 refine ⟨rfl, fun i r r' h1 h2 => ?_⟩
 match i with
 | 0 =>
   simp only [List.getElem?_cons_zero, Option.some.injEq] at h1 h2
   subst h1 h2
   refine ⟨rfl, rfl, fun j d d' g1 g2 => ?_⟩
   match j with
   | 0 => simp [za] at g1 g2; subst g1 g2; exact Or.inr ⟨rfl, 83, rfl⟩
   | 1 => simp [za] at g1 g2; subst g1 g2; exact Or.inr ⟨rfl, 104, rfl⟩
   | j + 2 => simp at g1
 | 1 =>
   simp only [List.getElem?_cons_succ, List.getElem?_cons_zero, Option.some.injEq] at h1 h2
   subst h1 h2
   exact zhI _
 | i + 2 => simp at h1
theorem zbI {P : Program} {fid : FuncId} {gs : List Arg} {g : Bool} {x : ProgramD} (h : zw P fid gs (fun rs st => rs = if g then [(true, za false x), (false, [cB true])] else [(true, [.sc (.slice none 0 0), .sc (.slice none 0 0)]), (false, [cB false])])) :
   zw P fid gs (fun rs st => rs = [(true, za false (if g then x else ⟨[], []⟩)), (false, [cB g])]) := by
 refine SoundAt.nilRs h (fun rs st hr => ⟨_, ?_, rfl⟩)
 rw [hr]
 cases g with
 | true =>
   simp only [if_true]
   exact ⟨rfl, fun i r r' h1 h2 => by rw [h1] at h2; cases h2; exact zhI _⟩
 | false =>
   simp only [Bool.false_eq_true, if_false]
   exact zlo false
theorem zfl {l : List FnD} {i : Nat} (h : i < l.length) : l.drop i = l[i] :: l.drop (i + 1) := List.drop_eq_getElem_cons h
theorem zcP (l : List FnD) (x : FnD) : rows (fnC false) l ++ [[D.sc (.string x.name), .row false 107 (rows (zy false) x.params), .sc (.int .i64 x.res), .sc (.int .i64 x.body), .sc (.int .i64 x.ret)]] = rows (fnC false) (l ++ [x]) := XA (fnC false) l x
theorem zkO (p : ProgramD) : (XE p).2.to.length <= 300 := by
 have key : ∀ (l : List FnD) (s : PkS), s.to.length <= 300 -> (Ze (pkI p.nodes 10) l s).2.to.length <= 300 := by
   intro l
   induction l with
   | nil => intro s hs; exact hs
   | cons f r ih =>
     intro s hs
     unfold Ze
     refine ih _ ?_
     unfold pkFn
     have h1 := zab p.nodes 10 f.body s hs
     split
     · exact zab p.nodes 10 f.ret _ h1
     · exact h1
 exact key p.fns pk0 (by simp [pk0])
theorem zfO (p : ProgramD) (hf : p.fns.length <= 1048576) (hn : p.nodes.length <= 1048576) (hk : ∀ x ∈ p.nodes, x.kids.length <= 1048576) (hpl : ∀ f ∈ p.fns, f.params.length <= 1048576) :
   zw Tryz.prog 150 [.ro (zd p)] (fun rs st => rs = [(true, za false (Yp p)), (false, [cB (zao p)])]) := by
 unfold Yp
 refine zbI ?_
 have hput := zkF p.nodes hn hk 10 (by omega)
 unfold PutI at hput
 have hmost := fun k s h => zab p.nodes 10 k s h
 have hB : zao p = !(XE p).2.bad := rfl
 obtain ⟨R, hR⟩ : ∃ R, XE p = R := ⟨_, rfl⟩
 rw [hB, hR]
 unfold XE at hR
 generalize hV : pkI p.nodes 10 = V at hput hmost hR
 have e11 : (11 - ((10 : Nat) : Int)) = 1 := by omega
 simp only [e11] at hput
 refine zm (fn := Tryz.f150) (c := Tryz.f150.body.getD .skip) (res := [.ce 2 36, .tm 3]) (n := 45) zg (by kernel_rfl) (by rfl) (by kernel_rfl) (by rfl) (by rfl) (by simp [zq]) (fun uf ub C hpin hpin2 hfull => ?_)
 simp only [Tryz.f150, Option.getD_some]
 refine Tri.step zg ?_
 simp +decide only [zd, za, pkC, hpin, go_sem, reduceAdd, reduceMul]
 refine Tri.ent ?_ (Ent.frb hfull 1)
 refine Tri.step zg ?_
 simp +decide only [zd, za, pkC, hpin, go_sem, reduceAdd, reduceMul]
 refine Tri.ent ?_ (Ent.nilr 4 1 83)
 refine Tri.step zg ?_
 simp +decide only [zd, za, pkC, hpin, go_sem, reduceAdd, reduceMul]
 refine Tri.ent ?_ (Ent.nilr 5 1 104)
 refine Tri.step zg ?_
 simp +decide only [zd, za, pkC, hpin, go_sem, reduceAdd, reduceMul]
 refine Tri.loop (ι := Nat × List FnD × PkS) (fun q => q.1 <= p.fns.length /\ q.2.1.length = q.1 /\ q.2.2.to.length <= 300 /\ R = (q.2.1 ++ (Ze V (p.fns.drop q.1) q.2.2).1, (Ze V (p.fns.drop q.1) q.2.2).2))
   (fun q => ⟨45, [(2, .bp 2 0), (4, .bp 4 0), (5, .bp 5 0), (12, .imm 104 (rows (fnC true) p.fns)), (13, vI p.fns.length), (14, vI q.1)], [(2, .box [.sc (.slice none 0 0), .sc (.slice none 0 0)]), (4, .box (pkC p.nodes q.2.2.to q.2.2.bad)), (5, .box [.sc (.slice none 0 0), .row false 104 (rows (fnC false) q.2.1)])]⟩) (fun q => p.fns.length - q.1) (0, [], pk0) ⟨by simp, rfl, by simp [pk0], by simp [<- hR]⟩ ?_ ?_
 · refine Ent.weak ?_ ?_ ?_ ?_ <;> simp +decide [ye, St.nilr, St.swap, subT, subB, zl, zk, zn, St.get, look, vI, vB, vS, cI, cS, cB, zh, za, pkC, roI, rows, pk0]
 · rintro ⟨i, acc, t⟩ ⟨hi, hal, htl, hRe⟩
   simp only at hi hal htl hRe |-
   refine zf zg _ ?_
   by_cases h' : i < p.fns.length
   · have e : ((i : Int) < (p.fns.length : Int)) = True := by simp [h']
     have hx : (rows (fnC true) p.fns).getD i [] = fnC true p.fns[i] := zj _ _ h'
     have hkx := hpl p.fns[i] (List.getElem_mem h')
     rw [zfl h'] at hRe
     unfold Ze at hRe
     generalize p.fns[i] = f at hx hkx hRe
     have hcf := zcv f hkx
     simp only [fnW] at hcf
     have hc1 := hput f.body t htl
     have ht1 := hmost f.body t htl
     unfold pkFn at hRe
     generalize V f.body t = r1 at hRe hc1 ht1
     obtain ⟨b1, t1⟩ := r1
     simp only at hRe hc1 ht1
     have hc2 := hput f.ret t1 ht1
     have ht2 := hmost f.ret t1 ht1
     generalize V f.ret t1 = r2 at hRe hc2 ht2
     obtain ⟨b2, t2⟩ := r2
     simp only at hRe hc2 ht2
     simp only [pkC, cI] at hc1 hc2
     have hb1 : i + 1 <= 140737488355328 := by omega
     have hb2 : (i + 1) * 64 <= 140737488355328 := by omega
     simp +decide only [e, h', hx, fnC, Int.natCast_nonneg, vB, vI, zd, za, pkC, hpin, go_sem, reduceAdd, reduceMul]
     refine ze hcf hpin ?_
     simp +decide only [fnC, zd, za, pkC, hpin, go_sem, reduceAdd, reduceMul]
     refine yE hc1 hpin hfull [(2000, 4)] [] [(2000, 4)] ⟨rfl, rfl, rfl, rfl⟩ (fun uf => ?_) ?_
     · simp +decide only [zd, za, pkC, hpin, go_sem, reduceAdd, reduceMul]
     simp +decide only [fnC, zd, za, pkC, hpin, go_sem, reduceAdd, reduceMul]
     by_cases h0 : 0 <= f.ret
     · have c0 : (0 <= f.ret) = True := eq_true h0
       rw [if_pos (by simpa using h0)] at hRe
       have hsn := zcP acc ⟨f.name, f.params, f.res, b1, b2⟩
       have hal2 : (acc ++ [(⟨f.name, f.params, f.res, b1, b2⟩ : FnD)]).length = i + 1 := by simp [hal]
       simp +decide only [c0, ge_iff_le, fnC, zd, za, pkC, hpin, go_sem, reduceAdd, reduceMul]
       refine yE hc2 hpin hfull [(2000, 4)] [] [(2000, 4)] ⟨rfl, rfl, rfl, rfl⟩ (fun uf => ?_) ?_
       · simp +decide only [zd, za, pkC, hpin, go_sem, reduceAdd, reduceMul]
       simp +decide only [hal, hal2, hb1, hb2, hsn, fnC, zd, za, pkC, hpin, go_sem, reduceAdd, reduceMul]
       refine ⟨(i + 1, acc ++ [⟨f.name, f.params, f.res, b1, b2⟩], t2), ⟨h', by simp [hal], ht2, by rw [hRe]; simp⟩, by show p.fns.length - (i + 1) < p.fns.length - i; omega, Ent.weak ?_ ?_ ?_ ?_⟩
       all_goals simp +decide [ye, St.nilr, St.swap, subT, subB, zl, zk, zn, St.get, look, vI, vB, vS, cI, cS, cB, zh, za, pkC, roI, hsn, w64s (n := p.fns.length) h' (by omega)]
     · have c0 : (0 <= f.ret) = False := eq_false h0
       rw [if_neg (by simpa using h0)] at hRe
       have hsn := zcP acc ⟨f.name, f.params, f.res, b1, f.ret⟩
       have hal2 : (acc ++ [(⟨f.name, f.params, f.res, b1, f.ret⟩ : FnD)]).length = i + 1 := by simp [hal]
       simp +decide only [c0, ge_iff_le, hal, hal2, hb1, hb2, hsn, fnC, zd, za, pkC, hpin, go_sem, reduceAdd, reduceMul]
       refine ⟨(i + 1, acc ++ [⟨f.name, f.params, f.res, b1, f.ret⟩], t1), ⟨h', by simp [hal], ht1, by rw [hRe]; simp⟩, by show p.fns.length - (i + 1) < p.fns.length - i; omega, Ent.weak ?_ ?_ ?_ ?_⟩
       all_goals simp +decide [ye, St.nilr, St.swap, subT, subB, zl, zk, zn, St.get, look, vI, vB, vS, cI, cS, cB, zh, za, pkC, roI, hsn, w64s (n := p.fns.length) h' (by omega)]
   · have hil : i = p.fns.length := by omega
     subst hil
     have e : ((p.fns.length : Int) < (p.fns.length : Int)) = False := by simp
     rw [List.drop_length] at hRe
     simp only [Ze, List.append_nil] at hRe
     subst hRe
     obtain ⟨tt, tb⟩ := t
     simp +decide only [e, vB, vI, zd, za, pkC, hpin, go_sem, reduceAdd, reduceMul]
     refine Tri.step zg ?_
     cases tb with
     | true =>
       simp +decide only [zd, za, pkC, hpin, go_sem, reduceAdd, reduceMul]
     | false =>
       simp +decide only [zd, za, pkC, hpin, go_sem, reduceAdd, reduceMul]
       refine zf zg _ ?_
       simp +decide only [zd, za, pkC, hpin, go_sem, reduceAdd, reduceMul]
theorem zfN (p : ProgramD) (hf : p.fns.length <= 1048576) (hn : p.nodes.length <= 1048576) (hk : ∀ x ∈ p.nodes, x.kids.length <= 1048576) (hpl : ∀ f ∈ p.fns, f.params.length <= 1048576) :
   zw Tryz.prog 139 [.ro (zd p)] (fun rs st => rs = [(true, za false (Yp p)), (false, [cB (zao p)])]) := by
 unfold Yp
 refine zbI ?_
 have hput := zkE p.nodes hn hk 10 (by omega)
 unfold PutR at hput
 have hmost := fun k s h => zmf p.nodes 10 k s 320 (by omega) h
 obtain ⟨ha1, ha2⟩ := zkM p
 obtain ⟨R, hR⟩ : ∃ R, zkN p = R := ⟨_, rfl⟩
 rw [hR] at ha1 ha2
 unfold zkN at hR
 generalize hV : pkR p.nodes 10 = V at hput hmost hR
 have e11 : (11 - ((10 : Nat) : Int)) = 1 := by omega
 simp only [e11] at hput
 refine zm (fn := Tryz.f139) (c := Tryz.f139.body.getD .skip) (res := [.ce 2 36, .tm 3]) (n := 68) zg (by kernel_rfl) (by rfl) (by kernel_rfl) (by rfl) (by rfl) (by simp [zq]) (fun uf ub C hpin hpin2 hfull => ?_)
 simp only [Tryz.f139, Option.getD_some]
 refine Tri.step zg ?_
 simp +decide only [zd, za, pkC, hpin, go_sem, reduceAdd, reduceMul]
 refine Tri.ent ?_ (Ent.frb hfull 1)
 refine Tri.step zg ?_
 simp +decide only [zd, za, pkC, hpin, go_sem, reduceAdd, reduceMul]
 refine Tri.ent ?_ (Ent.nilr 11 1 83)
 refine Tri.step zg ?_
 simp +decide only [zd, za, pkC, hpin, go_sem, reduceAdd, reduceMul]
 refine Tri.ent ?_ (Ent.nilr 5 1 104)
 refine Tri.step zg ?_
 simp +decide only [zd, za, pkC, hpin, go_sem, reduceAdd, reduceMul]
 refine Tri.loop (ι := Nat × List FnD × PkS) (fun q => q.1 <= p.fns.length /\ q.2.1.length = q.1 /\ q.2.2.to.length <= 320 /\ R = (q.2.1 ++ (Ze V (p.fns.drop q.1) q.2.2).1, (Ze V (p.fns.drop q.1) q.2.2).2))
   (fun q => ⟨68, [(1, .ip (za true p) 0), (2, .bp 2 0), (4, .bp 11 0), (5, .bp 5 0), (6, vI q.1)], [(2, .box [.sc (.slice none 0 0), .sc (.slice none 0 0)]), (11, .box (pkC p.nodes q.2.2.to q.2.2.bad)), (5, .box [.sc (.slice none 0 0), .row false 104 (rows (fnC false) q.2.1)])]⟩) (fun q => p.fns.length - q.1) (0, [], pk0) ⟨by simp, rfl, by simp [pk0], by simp [<- hR]⟩ ?_ ?_
 · refine Ent.weak ?_ ?_ ?_ ?_ <;> simp +decide [ye, St.nilr, St.swap, subT, subB, zl, zk, zn, St.get, look, vI, vB, vS, cI, cS, cB, zh, za, pkC, roI, rows, pk0]
 · rintro ⟨i, acc, t⟩ ⟨hi, hal, htl, hRe⟩
   simp only at hi hal htl hRe |-
   refine zf zg _ ?_
   by_cases h' : i < p.fns.length
   · have e : ((i : Int) < (p.fns.length : Int)) = True := by simp [h']
     have hx : (rows (fnC true) p.fns).getD i [] = fnC true p.fns[i] := zj _ _ h'
     have hkx := hpl p.fns[i] (List.getElem_mem h')
     rw [zfl h'] at hRe
     unfold Ze at hRe
     generalize p.fns[i] = f at hx hkx hRe
     have hfr := zaJ f.params
     have htf := zdv f.params
     have hb3 : f.params.length <= 140737488355328 := by omega
     have hb4 : f.params.length * 24 <= 140737488355328 := by omega
     have hc1 := hput f.body t (by omega)
     have ht1 := hmost f.body t htl
     unfold pkFn at hRe
     generalize V f.body t = r1 at hRe hc1 ht1
     obtain ⟨b1, t1⟩ := r1
     simp only at hRe hc1 ht1
     have hc2 := hput f.ret t1 (by omega)
     have ht2 := hmost f.ret t1 ht1
     generalize V f.ret t1 = r2 at hRe hc2 ht2
     obtain ⟨b2, t2⟩ := r2
     simp only at hRe hc2 ht2
     simp only [pkC, cI] at hc1 hc2
     have hb1 : i + 1 <= 140737488355328 := by omega
     have hb2 : (i + 1) * 64 <= 140737488355328 := by omega
     simp +decide only [e, h', hx, hfr, hb3, hb4, fnC, Int.natCast_nonneg, vB, vI, zd, za, pkC, hpin, go_sem, reduceAdd, reduceMul]
     refine yE hc1 hpin hfull [(2000, 11)] [] [(2000, 11)] ⟨rfl, rfl, rfl, rfl⟩ (fun uf => ?_) ?_
     · simp +decide only [zd, za, pkC, hpin, go_sem, reduceAdd, reduceMul]
     simp +decide only [fnC, zd, za, pkC, hpin, go_sem, reduceAdd, reduceMul]
     by_cases h0 : 0 <= f.ret
     · have c0 : (0 <= f.ret) = True := eq_true h0
       rw [if_pos (by simpa using h0)] at hRe
       have hsn := zcP acc ⟨f.name, f.params, f.res, b1, b2⟩
       simp only [<- htf] at hsn
       have hal2 : (acc ++ [(⟨f.name, f.params, f.res, b1, b2⟩ : FnD)]).length = i + 1 := by simp [hal]
       simp +decide only [c0, ge_iff_le, fnC, zd, za, pkC, hpin, go_sem, reduceAdd, reduceMul]
       refine yE hc2 hpin hfull [(2000, 11)] [] [(2000, 11)] ⟨rfl, rfl, rfl, rfl⟩ (fun uf => ?_) ?_
       · simp +decide only [zd, za, pkC, hpin, go_sem, reduceAdd, reduceMul]
       simp +decide only [hal, hal2, hb1, hb2, hsn, fnC, zd, za, pkC, hpin, go_sem, reduceAdd, reduceMul]
       refine ⟨(i + 1, acc ++ [⟨f.name, f.params, f.res, b1, b2⟩], t2), ⟨h', by simp [hal], ht2, by rw [hRe]; simp⟩, by show p.fns.length - (i + 1) < p.fns.length - i; omega, Ent.weak ?_ ?_ ?_ ?_⟩
       all_goals simp +decide [ye, St.nilr, St.swap, subT, subB, zl, zk, zn, St.get, look, vI, vB, vS, cI, cS, cB, zh, za, pkC, roI, hsn, w64s (n := p.fns.length) h' (by omega)]
     · have c0 : (0 <= f.ret) = False := eq_false h0
       rw [if_neg (by simpa using h0)] at hRe
       have hsn := zcP acc ⟨f.name, f.params, f.res, b1, f.ret⟩
       simp only [<- htf] at hsn
       have hal2 : (acc ++ [(⟨f.name, f.params, f.res, b1, f.ret⟩ : FnD)]).length = i + 1 := by simp [hal]
       simp +decide only [c0, ge_iff_le, hal, hal2, hb1, hb2, hsn, fnC, zd, za, pkC, hpin, go_sem, reduceAdd, reduceMul]
       refine ⟨(i + 1, acc ++ [⟨f.name, f.params, f.res, b1, f.ret⟩], t1), ⟨h', by simp [hal], ht1, by rw [hRe]; simp⟩, by show p.fns.length - (i + 1) < p.fns.length - i; omega, Ent.weak ?_ ?_ ?_ ?_⟩
       all_goals simp +decide [ye, St.nilr, St.swap, subT, subB, zl, zk, zn, St.get, look, vI, vB, vS, cI, cS, cB, zh, za, pkC, roI, hsn, w64s (n := p.fns.length) h' (by omega)]
   · have hil : i = p.fns.length := by omega
     subst hil
     have e : ((p.fns.length : Int) < (p.fns.length : Int)) = False := by simp
     rw [List.drop_length] at hRe
     simp only [Ze, List.append_nil] at hRe
     subst hRe
     obtain ⟨tt, tb⟩ := t
     simp only at ha1 ha2
     simp +decide only [e, vB, vI, zd, za, pkC, hpin, go_sem, reduceAdd, reduceMul]
     refine Tri.step zg ?_
     cases tb with
     | true =>
       have hB : zao p = false := by rw [<- ha1]; simp
       simp +decide only [hB, zd, za, pkC, hpin, go_sem, reduceAdd, reduceMul]
     | false =>
       by_cases g : 300 < tt.length
       · have g1 : ((300 : Int) < (tt.length : Int)) = True := eq_true (by omega)
         have hB : zao p = false := by rw [<- ha1]; simp [g]
         simp +decide only [g1, gt_iff_lt, hB, zd, za, pkC, hpin, go_sem, reduceAdd, reduceMul]
       · have g1 : ((300 : Int) < (tt.length : Int)) = False := eq_false (by omega)
         have hB : zao p = true := by rw [<- ha1]; simp; omega
         have hq := ha2 hB
         have q1 : (XE p).2.to = tt := by rw [<- hq]
         have q2 : (XE p).1 = acc := by rw [<- hq]
         simp +decide only [g1, gt_iff_lt, hB, q1, q2, zd, za, pkC, hpin, go_sem, reduceAdd, reduceMul]
         refine zf zg _ ?_
         simp +decide only [zd, za, pkC, hpin, go_sem, reduceAdd, reduceMul]
noncomputable def zby (q : ProgramD) : Bool := zao q && zZ (Yp q)
noncomputable def zaT (q : ProgramD) : Int := if zby q then 0 else 1
noncomputable def finP (p q : ProgramD) : ProgramD := if zby q then Yp q else p
theorem zdB (q : ProgramD) (hf : q.fns.length <= 1048576) (hk : ∀ x ∈ q.nodes, x.kids.length <= 1048576) (hpl : ∀ f ∈ q.fns, f.params.length <= 1048576) : (Yp q).nodes.length <= 300 /\ (Yp q).fns.length <= 1048576 /\ (∀ x ∈ (Yp q).nodes, x.kids.length <= 1048576) /\ (∀ f ∈ (Yp q).fns, f.params.length <= 1048576) := by
 unfold Yp
 split
 case isFalse => exact ⟨by simp, by simp, fun x hx => by simp at hx, fun x hx => by simp at hx⟩
 have hto : ∀ (d : Nat) (k : Int) (s : PkS), (∀ x ∈ s.to, x.kids.length <= 1048576) -> ∀ x ∈ (pkI q.nodes d k s).2.to, x.kids.length <= 1048576 := by
   intro d
   induction d with
   | zero => intro k s hs x hx; exact hs x hx
   | succ d ih =>
     intro k s hs
     have hr : ∀ (l : List Int) (s : PkS), (∀ x ∈ s.to, x.kids.length <= 1048576) -> ∀ x ∈ (runB (pkI q.nodes d) l s).2.to, x.kids.length <= 1048576 := by
       intro l
       induction l with
       | nil => intro s hs x hx; exact hs x hx
       | cons k r ihr =>
         intro s hs
         unfold runB
         split
         · exact hs
         · exact ihr _ (ih k s hs)
     have h1 := hr (nAt q.nodes k).kids s hs
     have h2 := zdk (pkI q.nodes d) (nAt q.nodes k).kids s
     have h3 : (nAt q.nodes k).kids.length <= 1048576 := by
       unfold nAt
       rw [List.getD_eq_getElem?_getD]
       cases hq : q.nodes[k.toNat]? with
       | none => simp [nd0]
       | some y => exact hk y (List.mem_of_getElem? hq)
     unfold pkI
     split
     · exact hs
     split
     · exact h1
     split
     · exact h1
     · intro x hx
       unfold zaI at hx
       simp only [List.mem_append, List.mem_singleton] at hx
       rcases hx with hx | rfl
       · exact h1 x hx
       · show (runB (pkI q.nodes d) (nAt q.nodes k).kids s).1.length <= _; omega
 have hfs : ∀ (l : List FnD) (s : PkS), (∀ x ∈ s.to, x.kids.length <= 1048576) -> (∀ f ∈ l, f.params.length <= 1048576) -> (Ze (pkI q.nodes 10) l s).1.length = l.length /\ (∀ x ∈ (Ze (pkI q.nodes 10) l s).2.to, x.kids.length <= 1048576) /\ ∀ f ∈ (Ze (pkI q.nodes 10) l s).1, f.params.length <= 1048576 := by
   intro l
   induction l with
   | nil => intro s hs hl; exact ⟨rfl, hs, fun f hf => by simp [Ze] at hf⟩
   | cons f r ih =>
     intro s hs hl
     have h1 : ∀ x ∈ (pkFn (pkI q.nodes 10) f s).2.to, x.kids.length <= 1048576 := by
       unfold pkFn
       split
       · exact hto 10 _ _ (hto 10 _ _ hs)
       · exact hto 10 _ _ hs
     have h2 : (pkFn (pkI q.nodes 10) f s).1.params = f.params := by unfold pkFn; split <;> rfl
     obtain ⟨g1, g2, g3⟩ := ih _ h1 (fun x hx => hl x (List.mem_cons_of_mem _ hx))
     unfold Ze
     refine ⟨by simp [g1], g2, fun x hx => ?_⟩
     rcases List.mem_cons.1 hx with rfl | hx
     · rw [h2]; exact hl f (List.mem_cons_self ..)
     · exact g3 x hx
 obtain ⟨g1, g2, g3⟩ := hfs q.fns pk0 (fun x hx => by simp [pk0] at hx) hpl
 refine ⟨zkO q, ?_, g2, g3⟩
 show (XE q).1.length <= _
 unfold XE
 omega
theorem zeK (p q : ProgramD) (hf : p.fns.length <= 1048576) (hn : p.nodes.length <= 1048576) (hk : ∀ x ∈ p.nodes, x.kids.length <= 1048576) (hpl : ∀ f ∈ p.fns, f.params.length <= 1048576) (hf2 : q.fns.length <= 1048576) (hn2 : q.nodes.length <= 1048576) (hk2 : ∀ x ∈ q.nodes, x.kids.length <= 1048576) (hpl2 : ∀ f ∈ q.fns, f.params.length <= 1048576) :
   zw Tryz.prog 73 [.ro (zd p), .ro (zd q)] (fun rs st => rs = [(true, za false (finP p q)), (false, [cI (zaT q)])]) := by
 have hpk := zfO q hf2 hn2 hk2 hpl2
 obtain ⟨g1, g2, g3, g4⟩ := zdB q hf2 hk2 hpl2
 have htr := YE (Yp q) g2 (by omega) g3 g4
 have hcp := YO p hf hn hk hpl
 unfold finP zaT zby
 generalize Yp q = Q at hpk htr |-
 simp only [zd, za] at hpk htr hcp
 refine zm (fn := Tryz.f73) (c := Tryz.f73.body.getD .skip) (res := [.ce 4 36, .tm 5]) (n := 23) zg (by kernel_rfl) (by rfl) (by kernel_rfl) (by rfl) (by rfl) (by simp [zq]) (fun uf ub C hpin hpin2 hfull => ?_)
 simp only [Tryz.f73, Option.getD_some]
 refine Tri.step zg ?_
 simp +decide only [zd, za, pkC, hpin, go_sem, reduceAdd, reduceMul]
 refine Tri.ent ?_ (Ent.frb hfull 2)
 refine Tri.ent ?_ (Ent.frb hfull 3)
 refine Tri.step zg ?_
 simp +decide only [zd, za, pkC, hpin, go_sem, reduceAdd, reduceMul]
 refine ze hpk hpin ?_
 simp +decide only [zd, za, pkC, hpin, go_sem, reduceAdd, reduceMul]
 refine Tri.step zg ?_
 cases hB : zao q with
 | false =>
   simp +decide only [zd, za, pkC, hpin, go_sem, reduceAdd, reduceMul]
   refine ze hcp hpin ?_
   simp +decide only [zd, za, pkC, hpin, go_sem, reduceAdd, reduceMul]
 | true =>
   simp +decide only [zd, za, pkC, hpin, go_sem, reduceAdd, reduceMul]
   refine ze htr hpin ?_
   cases hT : zZ Q with
   | false =>
     simp +decide only [zd, za, pkC, hpin, go_sem, reduceAdd, reduceMul]
     refine ze hcp hpin ?_
     simp +decide only [zd, za, pkC, hpin, go_sem, reduceAdd, reduceMul]
   | true =>
     simp +decide only [zd, za, pkC, hpin, go_sem, reduceAdd, reduceMul]
     refine zf zg _ ?_
     simp +decide only [zd, za, pkC, hpin, go_sem, reduceAdd, reduceMul]
theorem zdO (q : ProgramD) (hf2 : q.fns.length <= 1048576) (hn2 : q.nodes.length <= 1048576) (hk2 : ∀ x ∈ q.nodes, x.kids.length <= 1048576) (hpl2 : ∀ f ∈ q.fns, f.params.length <= 1048576) :
   zw Tryz.prog 61 [.ro (zd q)] (fun rs st => rs = [(true, za false (if zby q then Yp q else ⟨[], []⟩)), (false, [cB (zby q)])]) := by
 refine zbI ?_
 have hpk := zfN q hf2 hn2 hk2 hpl2
 obtain ⟨g1, g2, g3, g4⟩ := zdB q hf2 hk2 hpl2
 have htr := YD (Yp q) g2 (by omega) g3 g4
 unfold zby
 generalize Yp q = Q at hpk htr |-
 simp only [zd, za] at hpk htr
 refine zm (fn := Tryz.f61) (c := Tryz.f61.body.getD .skip) (res := [.ce 2 36, .tm 3]) (n := 20) zg (by kernel_rfl) (by rfl) (by kernel_rfl) (by rfl) (by rfl) (by simp [zq]) (fun uf ub C hpin hpin2 hfull => ?_)
 simp only [Tryz.f61, Option.getD_some]
 refine Tri.step zg ?_
 simp +decide only [zd, za, pkC, hpin, go_sem, reduceAdd, reduceMul]
 refine Tri.ent ?_ (Ent.frb hfull 1)
 refine Tri.step zg ?_
 simp +decide only [zd, za, pkC, hpin, go_sem, reduceAdd, reduceMul]
 refine ze hpk hpin ?_
 simp +decide only [zd, za, pkC, hpin, go_sem, reduceAdd, reduceMul]
 refine Tri.step zg ?_
 cases hB : zao q with
 | false =>
   simp +decide only [zd, za, pkC, hpin, go_sem, reduceAdd, reduceMul]
 | true =>
   simp +decide only [zd, za, pkC, hpin, go_sem, reduceAdd, reduceMul]
   refine ze htr hpin ?_
   cases hT : zZ Q with
   | false => simp +decide only [zd, za, pkC, hpin, go_sem, reduceAdd, reduceMul]
   | true =>
     simp +decide only [zd, za, pkC, hpin, go_sem, reduceAdd, reduceMul]
     refine zf zg _ ?_
     simp +decide only [zd, za, pkC, hpin, go_sem, reduceAdd, reduceMul]
def isSl : Value -> Prop
 | .slice _ _ _ => True
 | _ => False
def zmy : Value -> Prop
 | .int _ _ => True
 | _ => False
def zmz : Option D -> Prop
 | some (.sc (.int _ _)) => True
 | _ => False
def zgC (P : Program) (st : St) (t : TypeId) (pv vv : V) (K : St -> Prop) : Prop := match pv, vv with
 | .rp o p i j, .sc c => match look st.ob o with
   | some x => match subO x p with
     | some (.row false e es) => i < es.length /\ j + 1 <= szT P e /\ szT P t = 1 /\ zmz (cellAt es i j) /\ zmy c /\ ev (b := ⟨K⟩) { st with ob := (o, setO x p (.row false e (zN es i j (.sc c)))) :: drop st.ob o }
     | _ => False
   | none => False
 | _, _ => False
def zil (P : Program) (C : Cx) (ops : Array Oper) : List Oper -> St -> (St -> Prop) -> Prop
 | [], st, K => K st
 | o :: r, st, K => match o.op, o.dst, o.guard with
   | .store t x y, none, none => (st.ev x).ok /\ (st.ev y).ok /\ zgC P st t (st.ev x).str (st.ev y).str (fun st' => zil P C ops r st' K)
   | _, _, _ => Zq st o /\ zim P C ops st o (fun st' => zil P C ops r st' K)
section
variable {P : Program} {w w1 : World} {C : Cx} {X : Nat -> Prop} {gh gh' : Gh} {st st' : St} {a : Act} {v : V} {u : Value} {ob ob' : List (Nat × Ob)} {S : Nat -> Prop} {K : St -> Prop}
theorem Nav.head {d : D} {y : Value} {p : List (Nat × Nat)} {d2 : D} {v2 : Value} (h : Nav P w d y p d2 v2) (hs : isSl v2) : isSl y := by
 cases h with
 | nil => exact hs
 | cons hc hw hn => trivial
theorem Nav.moveS (Hw : ∀ b y, w.cell? b = some y -> isSl y -> w1.cell? b = some y) {d : D} {y : Value} {p : List (Nat × Nat)} {d2 : D} {v2 : Value} (h : Nav P w d y p d2 v2) (hs : isSl v2) : Nav P w1 d y p d2 v2 := by
 induction h with
 | nil => exact .nil
 | cons hc hw hn ih => exact .cons hc (Hw _ _ hw (hn.head hs)) (ih hs)
theorem Nav.keep (Hw : ∀ b y, w.cell? b = some y -> isSl y -> w1.cell? b = some y) {d : D} {y : Value} {p : List (Nat × Nat)} {d2 : D} {v2 : Value} (h : Nav P w d y p d2 v2) (hs : isSl v2) :
   ∀ {q : List (Nat × Nat)} {e : TypeId} {es : List (List D)} {i j : Nat} {c0 c : Value}, subD d q = some (.row false e es) -> cellAt es i j = some (.sc c0) -> ∀ {e' : TypeId} {es' : List (List D)}, d2 = .row false e' es' ->
     ∃ es'', Nav P w1 (setD d q (.row false e (zN es i j (.sc c)))) y p (.row false e' es'') v2 /\ es''.length = es'.length := by
 induction h with
 | @nil d y =>
   intro q e es i j c0 c hq hc e' es' hd
   subst hd
   cases q with
   | nil =>
     simp only [subD, Option.some.injEq, D.row.injEq, true_and] at hq
     obtain ⟨rfl, rfl⟩ := hq
     exact ⟨_, .nil, by simp⟩
   | cons ij q => exact ⟨_, .nil, by simp⟩
 | @cons e0 es0 ad l c1 i1 j1 d1 d2 v1 v2 p hc0 hw hn ih =>
   intro q e es i j c0 c hq hc e' es' hd
   have hw1 := Hw _ _ hw (hn.head hs)
   cases q with
   | nil =>
     simp only [subD, Option.some.injEq, D.row.injEq, true_and] at hq
     obtain ⟨rfl, rfl⟩ := hq
     simp only [setD]
     by_cases he : i = i1 /\ j = j1
     · obtain ⟨rfl, rfl⟩ := he
       rw [hc] at hc0
       cases hc0
       subst hd
       cases hn
     · refine ⟨es', .cons (by rw [yb hc, if_neg he]; exact hc0) hw1 ?_, rfl⟩
       subst hd
       exact hn.moveS Hw hs
   | cons ij q =>
     obtain ⟨a1, b1⟩ := ij
     simp only [subD, Option.bind_eq_some_iff] at hq
     obtain ⟨dq, hdq, hq⟩ := hq
     simp only [setD]
     by_cases he : a1 = i1 /\ b1 = j1
     · obtain ⟨rfl, rfl⟩ := he
       rw [hdq] at hc0
       cases hc0
       obtain ⟨es'', g1, g2⟩ := ih hs (c := c) hq hc hd
       refine ⟨es'', .cons (by rw [yb hdq, if_pos ⟨rfl, rfl⟩, hdq]) hw1 ?_, g2⟩
       exact g1
     · refine ⟨es', .cons (by rw [yb hdq, if_neg he]; exact hc0) hw1 ?_, rfl⟩
       subst hd
       exact hn.moveS Hw hs
theorem NavO.keep (Hw : ∀ b y, w.cell? b = some y -> isSl y -> w1.cell? b = some y) {o : Nat} {x : Ob} {p : List (Nat × Nat)} {e' : TypeId} {es' : List (List D)} {v2 : Value} (h : NavO P w gh o x p (.row false e' es') v2) (hs : isSl v2) {q : List (Nat × Nat)} {e : TypeId} {es : List (List D)} {i j : Nat} {c0 c : Value} (hq : subO x q = some (.row false e es)) (hc : cellAt es i j = some (.sc c0)) :
   ∃ es'', NavO P w1 gh o (setO x q (.row false e (zN es i j (.sc c)))) p (.row false e' es'') v2 /\ es''.length = es'.length := by
 cases x with
 | row e0 es0 =>
   simp only [NavO] at h
   obtain ⟨es'', g1, g2⟩ := h.keep Hw hs (c := c) (show subD (.row false e0 es0) q = _ from hq) hc rfl
   refine ⟨es'', ?_, g2⟩
   cases q with
   | nil =>
     simp only [subO, subD, Option.some.injEq, D.row.injEq, true_and] at hq
     obtain ⟨rfl, rfl⟩ := hq
     exact g1
   | cons ij q => exact g1
 | box cs =>
   cases p with
   | nil => exact h.elim
   | cons a1 p =>
     obtain ⟨ai, aj⟩ := a1
     obtain ⟨d1, v1, h1, h2, h3⟩ := h
     cases q with
     | nil => simp [subO] at hq
     | cons b1 q =>
       obtain ⟨bi, bj⟩ := b1
       simp only [subO, Option.bind_eq_some_iff] at hq
       obtain ⟨dq, hdq, hq⟩ := hq
       have hw1 := Hw _ _ h2 (h3.head hs)
       have hbl := (List.getElem?_eq_some_iff.1 hdq).1
       have e0 : cs.getD bj .dead = dq := by simp [List.getD, hdq]
       simp only [setO, e0]
       by_cases he : bj = aj
       · subst he
         rw [hdq] at h1
         cases h1
         obtain ⟨es'', g1, g2⟩ := h3.keep Hw hs (c := c) hq hc rfl
         exact ⟨es'', ⟨_, v1, List.getElem?_set_self hbl, hw1, g1⟩, g2⟩
       · exact ⟨es', ⟨d1, v1, by rw [List.getElem?_set_ne he]; exact h1, hw1, h3.moveS Hw hs⟩, rfl⟩
theorem VR.keep {o : Nat} {x x' : Ob} {F : Nat -> Prop} (h : VR P w gh ob v u) (ho : look ob o = some x) (hob' : ∀ o', look ob' o' = if o' = o then some x' else look ob o')
   (hl : ∀ cs, x = .box cs -> ∃ cs', x' = .box cs') (hn : ∀ p e es v2, NavO P w gh o x p (.row false e es) v2 -> isSl v2 -> ∃ es', NavO P w1 gh o x' p (.row false e es') v2 /\ es'.length = es.length)
   (hob : ∀ o y, look ob o = some y -> ObR P w gh o y) (hF : ∀ o' y k, o' ≠ o -> look ob o' = some y -> gh.F o' k -> w1.heap[k]? = w.heap[k]?) (hS : ∀ k, gh.S k -> w1.heap[k]? = w.heap[k]?) :
   VR P w1 (gh.upd o (gh.hv o) (gh.bb o) (gh.bo o) F) ob' v u := by
 obtain ⟨g1, g2, g3⟩ := gh.upd_self o F
 induction h with
 | dead => exact .dead
 | und => exact .und
 | sc h => exact .sc h
 | nil => exact .nil
 | imm h => exact .imm (h.move hS)
 | @ref o' n p y e es A c hx hnv hle =>
   by_cases e1 : o' = o
   · subst e1
     rw [ho] at hx; cases hx
     obtain ⟨es', n1, n2⟩ := hn p e es _ hnv trivial
     refine VR.ref (e := e) (es := es') (A := A) (c := c) (by rw [hob', if_pos rfl]) ?_ (by omega)
     rw [n2]
     exact n1.ghc g1 g2 g3
   · exact .ref (by rw [hob', if_neg e1]; exact hx) (((hob o' y hx).navO hnv (fun k hk => hF o' y k e1 hx hk)).ghc g1 g2 g3) hle
 | @bp o' j cs hx =>
   by_cases e1 : o' = o
   · subst e1
     rw [ho] at hx; cases hx
     obtain ⟨cs', rfl⟩ := hl cs rfl
     have := VR.bp (P := P) (w := w1) (gh := gh.upd o' (gh.hv o') (gh.bb o') (gh.bo o') F) (ob := ob') (o := o') (j := j) (cs := cs') (by rw [hob', if_pos rfl])
     rwa [g2, g3] at this
   · have := VR.bp (P := P) (w := w1) (gh := gh.upd o (gh.hv o) (gh.bb o) (gh.bo o) F) (ob := ob') (o := o') (j := j) (cs := cs) (by rw [hob', if_neg e1]; exact hx)
     rwa [g2, g3] at this
 | @rp o' i j p y e es ad c hx hnv =>
   by_cases e1 : o' = o
   · subst e1
     rw [ho] at hx; cases hx
     obtain ⟨es', n1, n2⟩ := hn p e es _ hnv trivial
     refine VR.rp (e := e) (es := es') (ad := ad) (c := c) (by rw [hob', if_pos rfl]) ?_
     rw [n2]
     exact n1.ghc g1 g2 g3
   · exact .rp (by rw [hob', if_neg e1]; exact hx) (((hob o' y hx).navO hnv (fun k hk => hF o' y k e1 hx hk)).ghc g1 g2 g3)
 | ip U hs h => exact .ip U hs fun q d hd => ⟨(Yo (x := ⟨_, _, none⟩) (hS _ hs)).trans (h q d hd).1, (h q d hd).2.move hS⟩
 | clo h => exact .clo (h.move hS (fun _ hk => hk))
 | agg hl' h1 h ih => exact .agg hl' h1 ih
 | tup hl' h ih => exact .tup hl' ih
 | cond ht hf ih => exact .cond ih hf
theorem zgT (h : Rep P C No st a w gh) {o : Oper} {t : TypeId} {x y : Operand} {K : St -> Prop} (ho : o.op = .store t x y) (hdst : o.dst = none) (hox : (st.ev x).ok) (hoy : (st.ev y).ok)
   (hk : zgC P st t (st.ev x).str (st.ev y).str K) : Comes1 P C o a w K := by
 unfold zgC at hk
 split at hk
 case h_2 => exact hk.elim
 rename_i o1 p i j c hpv hvv
 split at hk
 case h_2 => exact hk.elim
 rename_i x1 hx1
 split at hk
 case h_2 => exact hk.elim
 rename_i e es hsub
 obtain ⟨hi, hj, ht1, hD, hV, hk⟩ := hk
 have hp := h.use x hox
 have hy := h.use y hoy
 rw [hpv] at hp
 rw [hvv] at hy
 have hye : a.eval y = c := hy.sc_inv
 obtain ⟨v', F', n1, n2, n3, n4, n5⟩ := (h.obs o1 _ hx1).up hsub
 have hpv' : ∃ ad cc, v' = .slice (some ad) es.length cc /\ a.eval x = .pointer (some ⟨ad.block, ad.off + (i * szT P e + j), none⟩) := by
   generalize a.eval x = z at hp
   cases hp with
   | rp hx hn =>
     rw [hx1] at hx; cases hx
     obtain ⟨e1, e2⟩ := hn.fn n1
     cases e1
     exact ⟨_, _, e2.symm, rfl⟩
 obtain ⟨ad, cc, rfl, hpv'⟩ := hpv'
 obtain ⟨k0, m0, hce⟩ : ∃ k0 m0, cellAt es i j = some (.sc (.int k0 m0)) := by
   unfold zmz at hD
   split at hD
   · rename_i k0 m0 hh; exact ⟨k0, m0, hh⟩
   · exact hD.elim
 obtain ⟨k1, m1, rfl⟩ : ∃ k1 m1, c = .int k1 m1 := by
   unfold zmy at hV
   split at hV
   · exact ⟨_, _, rfl⟩
   · exact hV.elim
 have hone : (Value.int k1 m1).oneCell' = true := by
   rw [hye] at hy
   cases hy with
   | sc h => exact h
 have hcells : (Value.int k1 m1).cells.toList = [Value.int k1 m1] := by rw [Yn hone]
 have hsz1 : (Value.int k1 m1).cells.size = 1 := by rw [Yn hone]; rfl
 obtain ⟨F1, s1, s2, s3, s4, s5⟩ := n2.store (g := 0) (ds := [D.sc (.int k1 m1)]) (us := [Value.int k1 m1]) (j := j) (G := fun _ _ => False) hi (by simpa using hj) rfl (by simp [hone]) (fun q d hd => by
   cases q with
   | zero => simp at hd; subst hd; exact .sc hone
   | succ q => simp at hd) (fun _ _ _ _ _ hk => hk.elim) (fun _ _ _ hk => hk.elim) (fun k hk => h.nS o1 _ k hx1 (n3 k hk))
 have hse : es.set i (setL (es.getD i []) j [D.sc (.int k1 m1)]) = zN es i j (.sc (.int k1 m1)) := rfl
 rw [hse] at s1
 let w1 := w.setCells ad.block (ad.off + (i * szT P e + j)) [Value.int k1 m1]
 have hu := n5 w1 e (zN es i j (.sc (.int k1 m1))) F1 (fun k hk => zW _ _ _ w k (fun e' => by subst e'; exact h.nS o1 _ _ hx1 (n3 _ s3) hk))
   (fun k hk hk' => zW _ _ _ w k (fun e' => by subst e'; exact hk' s3)) s1 (fun k hk hF => (s2 k hk).elim id (fun ⟨q, hq, hG'⟩ => hG'.elim))
 have hne : ∀ k, k ≠ ad.block -> w1.heap[k]? = w.heap[k]? := fun k hk => zW ad.block _ _ w k hk
 have hbF : gh.F o1 ad.block := n3 _ s3
 have hmay : C.w0.heap.size <= ad.block \/ ∀ f, C.may ad.block f := by
   cases x1 with
   | row e' es' => exact h.wrR o1 e' es' _ hx1 hbF
   | box cs' => exact h.wrB o1 cs' _ hx1 hbF (n4 cs' _ rfl s3)
 have hFo : ∀ o' y' k, o' ≠ o1 -> look st.ob o' = some y' -> gh.F o' k -> w1.heap[k]? = w.heap[k]? := fun o' y' k hne' hy' hk' => hne k (fun e' => by
   subst e'; exact hne' (h.dis o' o1 y' x1 _ hy' hx1 hk' hbF))
 have hSo : ∀ k, gh.S k -> w1.heap[k]? = w.heap[k]? := fun k hk => hne k (fun e' => by subst e'; exact h.nS o1 x1 _ hx1 hbF hk)
 let F2 : Nat -> Prop := fun k => (gh.F o1 k /\ ¬ F' k) \/ F1 k
 have hr2 := h.swap (w1 := w1) (F := F2) (X' := No) hx1 (hu.2 rfl (by simp)) (by simp only [w1]; rw [YV]; exact Nat.le_refl _) hFo hSo
   (World.keptBut_setCells ad.block _ _ w (fun q hq => ⟨ad.block, _, rfl, hmay.imp id (fun hh => hh _)⟩)) hu.1 (fun k hk => Or.inl (by
     rcases hk with ⟨hk, _⟩ | hk
     · exact hk
     · exact (s2 k hk).elim (n3 k) (fun ⟨_, _, hG'⟩ => hG'.elim))) (fun k hk => hk.elim) (fun _ _ _ hk => hk.elim)
 -- the cell that is written held a number
 have hold : w.cell? ⟨ad.block, ad.off + (i * szT P e + j), none⟩ = some (.int k0 m0) := by
   cases n2 with
   | row xs H own hszz h1 hx dis nb =>
     have hlt := zbk hi (show j < szT P e by omega)
     obtain ⟨g, cap, he, hcc, hm, hcell, _⟩ := yV own (by omega)
     cases he
     have hv := hx i j _ hce
     have h2 := (hcell _ hlt).trans (yw (by rw [own.1]; exact hlt))
     try simp only [Nat.zero_add] at h2
     have hq : xs.getD (i * szT P e + j) undef = .int k0 m0 := by
       generalize H i j = G0 at hv
       generalize xs.getD (i * szT P e + j) undef = z at hv |-
       cases hv; rfl
     rw [hq] at h2
     simpa using h2
 have Hw : ∀ b y, w.cell? b = some y -> isSl y -> w1.cell? b = some y := fun b y hb hs => by
   rw [<- hb]
   refine World.cell?_setCells_out ad.block [Value.int k1 m1] _ w b (fun hb1 hb2 => ?_)
   by_cases hoff : b.off = ad.off + (i * szT P e + j)
   · exfalso
     have e1 : b = ⟨ad.block, ad.off + (i * szT P e + j), none⟩ := by
       cases b; simp_all
     rw [e1, hold] at hb
     cases hb
     exact hs
   · simp only [List.length_singleton]; omega
 obtain ⟨g1, g2, g3⟩ := gh.upd_self o1 F2
 refine ⟨.skip, w1, ?_, Or.inr ⟨rfl, _, gh.upd o1 (gh.hv o1) (gh.bb o1) (gh.bo o1) F2, hk, ?_⟩⟩
 · have hth : w.there ad.block (ad.off + (i * szT P e + j)) (a.eval y).cells.size := by rw [hye, hsz1]; simpa using s5 0 (by simp)
   have := zdh (P := P) w ad.block (ad.off + (i * szT P e + j)) t (a.eval y) hth (by rw [ht1, hye, hsz1]) (by omega) (by rw [hye, Yn hone]; simp [hone])
   have hw1 : w.setCells ad.block (ad.off + (i * szT P e + j)) (a.eval y).cells.toList = w1 := by rw [hye, hcells]
   rw [hw1] at this
   simp only [execOp, ho, hpv']
   simp [Sem.run_bind, this]
 · have htm : ∀ tt, St.get { st with ob := (o1, setO x1 p (.row false e (zN es i j (.sc (.int k1 m1))))) :: drop st.ob o1 } tt = st.get tt := fun _ => rfl
   have hput : a.put o.dst undef = a := by rw [hdst]; rfl
   rw [hput]
   exact {
     obs := hr2.obs, dis := hr2.dis, sS := hr2.sS, nS := hr2.nS, wrR := hr2.wrR, wrB := hr2.wrB, wrC := hr2.wrC, kept := hr2.kept, pins := hr2.pins
     tms := fun tt => by
       rw [htm]
       refine (h.tms tt).keep (x' := setO x1 p (.row false e (zN es i j (.sc (.int k1 m1))))) hx1 (fun o' => ?_) (fun cs hcs => ?_) (fun p' e' es' v2 hn hs => hn.keep Hw hs hsub hce) h.obs hFo hSo
       · have := yf st o1 o' (setO x1 p (.row false e (zN es i j (.sc (.int k1 m1)))))
         unfold St.swap at this
         exact this
       · subst hcs
         cases p with
         | nil => simp [subO] at hsub
         | cons ij p => exact ⟨_, rfl⟩
     nt := hr2.nt, dfs := hr2.dfs, xl := hr2.xl, xS := hr2.xS, xF := hr2.xF, xW := hr2.xW, s0S := hr2.s0S, sZ := hr2.sZ }
theorem zbM (hz : xp P) {ops : Array Oper} {Q : Exit -> Act -> World -> Prop} : ∀ (l : List Oper) {st : St} {a : Act} {w : World} {gh : Gh}, Rep P C No st a w gh -> zil P C ops l st K -> (∀ a w, Up P C K a w -> Q .normal a w) -> wpList P ops Q l a w
 | [], st, a, w, gh, h, hk, hQ => hQ a w ⟨st, gh, hk, h⟩
 | o :: r, st, a, w, gh, h, hk, hQ => by
   have step : (if Region.wanted o (yielded ops a.tmps) then o.wp P a w (Up P C (fun st' => zil P C ops r st' K)) Q else Up P C (fun st' => zil P C ops r st' K) (a.put o.dst undef) w) := by
     unfold zil at hk
     split at hk
     · rename_i t x y hop hdst hg
       obtain ⟨h1, h2, hk⟩ := hk
       have : Region.wanted o (yielded ops a.tmps) = true := by simp [Region.wanted, hg]
       rw [if_pos this]
       exact (zgT h hop hdst h1 h2 hk).wp
     · exact ZQ (Q := Q) hz h hk.1 hk.2
   unfold wpList
   split
   · rename_i hw
     rw [if_pos hw] at step
     exact Or.inl (Oper.wp_mono (fun a' w' ⟨st', gh', hk', h'⟩ => zbM hz r h' hk' hQ) step)
   · rename_i hw
     rw [if_neg hw] at step
     obtain ⟨st', gh', hk', h'⟩ := step
     exact zbM hz r h' hk' hQ
theorem Tri.regK (hz : xp P) {id : Nat} {ops : Array Oper} {Q : Exit -> St -> Prop} (h : zil P C ops ops.toList st (Q .normal)) : Tri P C st (.region id ops false) Q :=
 fun a w gh hR => wp_region_list (zbM (K := Q .normal) hz _ hR h (fun a w h => h))
theorem Tri.ite {c : Operand} {x y : Code} {b : Bool} {Q : Exit -> St -> Prop} (hok : (st.ev c).ok) (hb : (st.ev c).str = .sc (.bool b)) (h : Tri P C st (cond b x y) Q) : Tri P C st (.cond c x y) Q := fun a w gh hR => by
 have hv := hR.use c hok
 rw [hb] at hv
 cases b with
 | true => exact wp_cond_split (t := true) hv.sc_inv (fun _ => h a w gh hR) (fun hf => by cases hf)
 | false => exact wp_cond_split (t := false) hv.sc_inv (fun hf => by cases hf) (fun _ => h a w gh hR)
theorem Tri.blk {id : Nat} {c : Code} {Q : Exit -> St -> Prop} (h : Tri P C st c (Exit.blk id Q)) : Tri P C st (.block id c) Q := fun a w gh hR => wp_block (Code.wp_mono (fun e a' w' hq => by
 cases e with
 | exit j =>
   obtain ⟨st', gh', hk, hR'⟩ := hq
   simp only [Exit.inBlock]
   simp only [Exit.blk] at hk
   split
   · rename_i hj; rw [if_pos hj] at hk; exact ⟨st', gh', hk, hR'⟩
   · rename_i hj; rw [if_neg hj] at hk; exact ⟨st', gh', hk, hR'⟩
 | _ => exact hq) (h a w gh hR))
end
attribute [go_sem] zil zgC zmz zmy
def mixT {α : Type} (A B : List α) (i : Nat) : List α := B.take i ++ A.drop i
theorem zaL {α : Type} {A B : List α} (h : B.length = A.length) {i : Nat} (hi : i <= A.length) : (mixT A B i).length = A.length := by simp [mixT]; omega
theorem zdJ {α : Type} (A B : List α) : mixT A B 0 = A := by simp [mixT]
theorem zfZ {α : Type} {A B : List α} (h : B.length = A.length) : mixT A B A.length = B := by unfold mixT; rw [<- h, List.take_length, h, List.drop_length, List.append_nil]
theorem zfY {α : Type} {A B : List α} (h : B.length = A.length) {i : Nat} (hi : i < A.length) (h2 : i < (mixT A B i).length) : (mixT A B i)[i] = A[i] := by
 simp only [mixT]
 rw [List.getElem_append_right (by simp; omega)]
 simp [Nat.min_eq_left (show i <= B.length by omega)]
theorem zfX {α : Type} {A B : List α} (h : B.length = A.length) {i : Nat} (hi : i < A.length) : (mixT A B i).set i (B[i]'(by omega)) = mixT A B (i + 1) := by
 have e : (B.take i).length = i := by simp; omega
 unfold mixT
 rw [List.drop_eq_getElem_cons hi, List.set_append_right _ _ (by rw [e]; omega), e, Nat.sub_self, List.set_cons_zero, List.take_succ_eq_append_getElem (by omega), List.append_assoc]
 rfl
theorem zaE {α : Type} (f : α -> List D) (l : List α) {i : Nat} (h : i < l.length) : (rows f l)[i]? = some (f l[i]) := by simp [rows, h]
theorem zlQ {α : Type} (f : α -> List D) (l : List α) (i : Nat) (x : α) : (rows f l).set i (f x) = rows f (l.set i x) := by simp [rows, List.map_set]
theorem zlV {α : Type} (f : α -> D) (l : List α) {i : Nat} (h : i < l.length) : (row1 f l)[i]? = some [f l[i]] := by simp [row1, h]
theorem zoM {α : Type} (f : α -> D) (l : List α) (i : Nat) (x : α) : (row1 f l).set i [f x] = row1 f (l.set i x) := by simp [row1, List.map_set]
def hgK (k o : Int) (i : Nat) (q : Int) : Int := if (q == k) && !((i : Int) == o) then o else q
def hgX (k o : Int) (i : Nat) (x : NodeD) : NodeD := ⟨x.kind, x.num, x.name, x.kids.map (hgK k o i)⟩
def hgN (k o : Int) (N : List NodeD) : List NodeD := N.mapIdx (hgX k o)
def hgR (k o : Int) (f : FnD) : FnD := if f.ret == k then ⟨f.name, f.params, f.res, f.body, o⟩ else f
def hgP (k o : Int) (p : ProgramD) : ProgramD := ⟨hgN k o p.nodes, p.fns.map (hgR k o)⟩
theorem yv (k o : Int) (N : List NodeD) : (hgN k o N).length = N.length := by simp [hgN]
theorem zgk (k o : Int) (N : List NodeD) {i : Nat} (h : i < N.length) (h2 : i < (hgN k o N).length) : (hgN k o N)[i] = hgX k o i N[i] := by simp [hgN]
theorem zjT {T : List NodeD} {i : Nat} (h : i < T.length) (K : List Int) : (rows (zh false) T).set i [D.sc (.int .i64 T[i].kind), .sc (.int .i64 T[i].num), .sc (.string T[i].name), .row false 3 (row1 cI K)] = rows (zh false) (T.set i ⟨T[i].kind, T[i].num, T[i].name, K⟩) := zlQ (zh false) T i ⟨T[i].kind, T[i].num, T[i].name, K⟩
theorem zdC {T : List NodeD} {i : Nat} (h : i < T.length) (K : List Int) : zN (rows (zh false) T) i 3 (.row false 3 (row1 cI K)) = rows (zh false) (T.set i ⟨T[i].kind, T[i].num, T[i].name, K⟩) := by
 unfold zN
 rw [List.getD_eq_getElem?_getD, zaE (zh false) T h]
 exact zjT h K
theorem znN {L : List Int} {j : Nat} (h : j < L.length) (v : Int) : zN (row1 cI L) j 0 (.sc (.int .i64 v)) = row1 cI (L.set j v) := by
 unfold zN
 rw [List.getD_eq_getElem?_getD, zlV cI L h]
 exact zoM cI L j v
theorem zpe {T : List FnD} {i : Nat} (h : i < T.length) (o : Int) : zN (rows (fnC false) T) i 4 (.sc (.int .i64 o)) = rows (fnC false) (T.set i ⟨T[i].name, T[i].params, T[i].res, T[i].body, o⟩) := by
 unfold zN
 rw [List.getD_eq_getElem?_getD, zaE (fnC false) T h]
 exact zlQ (fnC false) T i ⟨T[i].name, T[i].params, T[i].res, T[i].body, o⟩
theorem ziZ (p : ProgramD) (k o : Int) (hf : p.fns.length <= 1048576) (hn : p.nodes.length <= 1048576) (hk : ∀ x ∈ p.nodes, x.kids.length <= 1048576) :
   SoundAt Tryz.prog 71 (fun uf => zq 0 [.ro (.bp 2000 0), .ro (.sc (.int .i64 k)), .ro (.sc (.int .i64 o))]) [(2000, .box (za false p))]
     (fun rs st => rs = [] /\ xB st.ob [(2000, .box (za false (hgP k o p)))]) := by
 have hBl := yv k o p.nodes
 have hFl : (p.fns.map (hgR k o)).length = p.fns.length := by simp
 refine zm (fn := Tryz.f71) (c := Tryz.f71.body.getD .skip) (res := []) (n := 80) zg (by kernel_rfl) (by rfl) (by kernel_rfl) (by rfl) (by rfl) (by simp [zq]) (fun uf ub C hpin hpin2 hfull => ?_)
 simp only [Tryz.f71, Option.getD_some]
 refine Tri.stop zg ⟨80, [(0, .bp 2000 0), (1, vI k), (2, vI o)], [(2000, .box [.row false 83 (rows (zh false) (hgN k o p.nodes)), .row false 104 (rows (fnC false) p.fns)])]⟩ ?_ ?_
 · simp +decide only [zd, za, hpin, hpin2, go_sem, reduceAdd, reduceMul]
   refine Tri.loop (ι := Nat) (fun i => i <= p.nodes.length) (fun i => ⟨80, [(0, .bp 2000 0), (1, vI k), (2, vI o), (14, vI p.nodes.length), (15, vI i)], [(2000, .box [.row false 83 (rows (zh false) (mixT p.nodes (hgN k o p.nodes) i)), .row false 104 (rows (fnC false) p.fns)])]⟩) (fun i => p.nodes.length - i) 0 (by simp) ?_ ?_
   · refine Ent.weak ?_ ?_ ?_ ?_ <;> simp +decide [ye, subT, subB, zl, zk, zn, St.get, look, vI, vB, vS, cI, cS, cB, zh, za, roI, zdJ]
   · rintro i hi
     refine zf zg _ ?_
     by_cases h' : i < p.nodes.length
     · have e : ((i : Int) < (p.nodes.length : Int)) = True := by simp [h']
       have hml := zaL hBl hi
       have h2 : i < (mixT p.nodes (hgN k o p.nodes) i).length := by omega
       have hg := zfY hBl h' h2
       have hst := zfX hBl h'
       rw [zgk k o p.nodes h'] at hst
       have hkx := hk p.nodes[i] (List.getElem_mem h')
       obtain ⟨T1, hT1⟩ : ∃ T, T = mixT p.nodes (hgN k o p.nodes) (i + 1) := ⟨_, rfl⟩
       rw [<- hT1] at hst
       generalize mixT p.nodes (hgN k o p.nodes) i = T0 at hml h2 hg hst |-
       rw [<- hg] at hst hkx
       have hq := zaE (zh false) T0 h2
       simp only [zh, cI, cS] at hq
       have hci : ((i : Int) < (T0.length : Int)) = True := eq_true (by omega)
       simp +decide only [e, hci, h2, hq, Int.natCast_nonneg, vB, vI, zd, za, hpin, hpin2, go_sem, reduceAdd, reduceMul]
       have hLl : (T0[i].kids.map (hgK k o i)).length = T0[i].kids.length := by simp
       have hsx : T0.set i ⟨T0[i].kind, T0[i].num, T0[i].name, T0[i].kids⟩ = T0 := by
         rw [show (⟨T0[i].kind, T0[i].num, T0[i].name, T0[i].kids⟩ : NodeD) = T0[i] from rfl, List.set_getElem_self]
       have hend : (T0.set i ⟨T0[i].kind, T0[i].num, T0[i].name, T0[i].kids.map (hgK k o i)⟩) = T1 := hst
       generalize hxe : T0[i] = x at hst hkx hq hsx hend hLl |-
       refine Tri.loop (ι := Nat) (fun j => j <= x.kids.length) (fun j => ⟨80, [(0, .bp 2000 0), (1, vI k), (2, vI o), (6, vI i), (14, vI p.nodes.length), (15, vI i), (25, .ref 2000 [(0, 0), (i, 3)] x.kids.length), (26, vI x.kids.length), (27, vI j)], [(2000, .box [.row false 83 (rows (zh false) (T0.set i ⟨x.kind, x.num, x.name, mixT x.kids (x.kids.map (hgK k o i)) j⟩)), .row false 104 (rows (fnC false) p.fns)])]⟩) (fun j => x.kids.length - j) 0 (by simp) ?_ ?_
       · refine Ent.weak ?_ ?_ ?_ ?_ <;> simp +decide [ye, subT, subB, zl, zk, zn, St.get, look, vI, vB, vS, cI, cS, cB, zh, za, roI, zdJ, hsx]
       · rintro j hj
         by_cases hj' : j < x.kids.length
         · have ej : ((j : Int) < (x.kids.length : Int)) = True := by simp [hj']
           have hKl := zaL hLl hj
           have hj2 : j < (mixT x.kids (x.kids.map (hgK k o i)) j).length := by omega
           have hKg := zfY hLl hj' hj2
           have hKs := zfX hLl hj'
           rw [List.getElem_map] at hKs
           obtain ⟨K1, hK1⟩ : ∃ K, K = mixT x.kids (x.kids.map (hgK k o i)) (j + 1) := ⟨_, rfl⟩
           rw [<- hK1] at hKs
           generalize mixT x.kids (x.kids.map (hgK k o i)) j = K0 at hKl hj2 hKg hKs |-
           have hTl : (T0.set i ⟨x.kind, x.num, x.name, K0⟩).length = T0.length := by simp
           have hi2 : i < (T0.set i ⟨x.kind, x.num, x.name, K0⟩).length := by omega
           have hTg : (T0.set i ⟨x.kind, x.num, x.name, K0⟩)[i] = ⟨x.kind, x.num, x.name, K0⟩ := by simp
           have hq2 := zaE (zh false) _ hi2
           rw [hTg] at hq2
           simp only [zh, cI, cS] at hq2
           have hr2 := zlV cI K0 hj2
           rw [hKg] at hr2
           simp only [cI] at hr2
           have hcK : ((j : Int) < (K0.length : Int)) = True := eq_true (by omega)
           have hciT : ((i : Int) < ((T0.set i ⟨x.kind, x.num, x.name, K0⟩).length : Int)) = True := eq_true (by omega)
           have hTT : ∀ K, (T0.set i ⟨x.kind, x.num, x.name, K0⟩).set i ⟨x.kind, x.num, x.name, K⟩ = T0.set i ⟨x.kind, x.num, x.name, K⟩ := fun K => by rw [List.set_set]
           have hks := fun K => zjT hi2 K
           rw [hTg] at hks
           simp only [hTT] at hks
           have hsc := znN hj2 o
           have hKK : ∀ y, K0[j] = y -> K0.set j y = K0 := fun y hy => by rw [<- hy, List.set_getElem_self]
           have hKK := hKK _ hKg
           generalize hq0 : x.kids[j] = q at hKg hKs hr2 hKK
           refine Tri.step zg ?_
           simp +decide only [ej, vB, vI, zd, za, hpin, hpin2, go_sem, reduceAdd, reduceMul]
           refine Tri.step zg ?_
           simp +decide only [zd, za, hpin, hpin2, go_sem, reduceAdd, reduceMul]
           refine Tri.seq (Tri.blk ?_)
           refine Tri.step zg ?_
           simp +decide only [hq2, hr2, hcK, hciT, ej, hj2, hi2, Int.natCast_nonneg, zd, za, hpin, hpin2, go_sem, reduceAdd, reduceMul]
           refine Tri.step zg ?_
           cases h1 : q == k with
           | false =>
             have hgq : hgK k o i q = q := by unfold hgK; rw [h1]; rfl
             rw [hgq, hKK] at hKs
             simp +decide only [h1, zd, za, hpin, hpin2, go_sem, reduceAdd, reduceMul]
             refine zf zg _ ?_
             simp +decide only [zd, za, hpin, hpin2, go_sem, reduceAdd, reduceMul]
             refine zf zg _ ?_
             simp +decide only [zd, za, hpin, hpin2, go_sem, reduceAdd, reduceMul]
             refine ⟨j + 1, hj', by omega, Ent.weak ?_ ?_ ?_ ?_⟩
             all_goals simp +decide [ye, subT, subB, zl, zk, zn, St.get, look, vI, vB, vS, cI, cS, cB, zh, za, roI, <- hK1, <- hKs, w64s (n := x.kids.length) hj' (by omega)]
           | true =>
             cases h3 : (i : Int) == o with
             | true =>
               have hgq : hgK k o i q = q := by unfold hgK; rw [h1, h3]; rfl
               rw [hgq, hKK] at hKs
               simp +decide only [h1, h3, bne, zd, za, hpin, hpin2, go_sem, reduceAdd, reduceMul]
               refine zf zg _ ?_
               simp +decide only [zd, za, hpin, hpin2, go_sem, reduceAdd, reduceMul]
               refine zf zg _ ?_
               simp +decide only [zd, za, hpin, hpin2, go_sem, reduceAdd, reduceMul]
               refine ⟨j + 1, hj', by omega, Ent.weak ?_ ?_ ?_ ?_⟩
               all_goals simp +decide [ye, subT, subB, zl, zk, zn, St.get, look, vI, vB, vS, cI, cS, cB, zh, za, roI, <- hK1, <- hKs, w64s (n := x.kids.length) hj' (by omega)]
             | false =>
               simp +decide only [h1, h3, bne, zd, za, hpin, hpin2, go_sem, reduceAdd, reduceMul]
               refine Tri.ite (b := true) (by simp +decide only [zd, za, hpin, hpin2, go_sem, reduceAdd, reduceMul]) (by simp +decide only [zd, za, hpin, hpin2, go_sem, reduceAdd, reduceMul]) ?_
               refine Tri.regK zg ?_
               have hgq : hgK k o i q = o := by unfold hgK; rw [h1, h3]; rfl
               rw [hgq] at hKs
               rw [hKs] at hsc
               simp +decide only [hq2, hr2, hcK, hciT, ej, hj2, hi2, hsc, hks, Int.natCast_nonneg, zd, za, hpin, hpin2, go_sem, reduceAdd, reduceMul]
               refine zf zg _ ?_
               simp +decide only [zd, za, hpin, hpin2, go_sem, reduceAdd, reduceMul]
               have hsk := zdC hi2 K1
               rw [hTg] at hsk
               simp only [hTT] at hsk
               refine ⟨j + 1, hj', by omega, Ent.weak ?_ ?_ ?_ ?_⟩
               all_goals simp +decide [ye, subT, subB, zl, zk, zn, St.get, look, vI, vB, vS, cI, cS, cB, zh, za, roI, <- hK1, hsk, w64s (n := x.kids.length) hj' (by omega)]
         · have hjl : j = x.kids.length := by omega
           subst hjl
           have ej : ((x.kids.length : Int) < (x.kids.length : Int)) = False := by simp
           refine zf zg _ ?_
           simp +decide only [ej, zfZ hLl, hend, vB, vI, zd, za, hpin, hpin2, go_sem, reduceAdd, reduceMul]
           refine ⟨i + 1, h', by omega, Ent.weak ?_ ?_ ?_ ?_⟩
           all_goals simp +decide [ye, subT, subB, zl, zk, zn, St.get, look, vI, vB, vS, cI, cS, cB, zh, za, roI, <- hT1, w64s (n := p.nodes.length) h' (by omega)]
     · have hil : i = p.nodes.length := by omega
       subst hil
       have e : ((p.nodes.length : Int) < (p.nodes.length : Int)) = False := by simp
       simp +decide only [e, zfZ hBl, vB, vI, zd, za, hpin, hpin2, go_sem, reduceAdd, reduceMul]
       refine Ent.weak ?_ ?_ ?_ ?_
       all_goals simp +decide [ye, subT, subB, zl, zk, zn, St.get, look, vI, vB, vS, cI, cS, cB, zh, za, roI]
 · refine Tri.step zg ?_
   simp +decide only [zd, za, hpin, hpin2, go_sem, reduceAdd, reduceMul]
   refine zf zg _ ?_
   simp +decide only [zd, za, hpin, hpin2, go_sem, reduceAdd, reduceMul]
   refine Tri.loop (ι := Nat) (fun i => i <= p.fns.length) (fun i => ⟨80, [(0, .bp 2000 0), (1, vI k), (2, vI o), (57, vI p.fns.length), (58, vI i)], [(2000, .box [.row false 83 (rows (zh false) (hgN k o p.nodes)), .row false 104 (rows (fnC false) (mixT p.fns (p.fns.map (hgR k o)) i))])]⟩) (fun i => p.fns.length - i) 0 (by simp) ?_ ?_
   · refine Ent.weak ?_ ?_ ?_ ?_ <;> simp +decide [ye, subT, subB, zl, zk, zn, St.get, look, vI, vB, vS, cI, cS, cB, zh, za, roI, zdJ]
   · rintro i hi
     refine zf zg _ ?_
     by_cases h' : i < p.fns.length
     · have e : ((i : Int) < (p.fns.length : Int)) = True := by simp [h']
       have hml := zaL hFl hi
       have h2 : i < (mixT p.fns (p.fns.map (hgR k o)) i).length := by omega
       have hg := zfY hFl h' h2
       have hst := zfX hFl h'
       rw [List.getElem_map] at hst
       obtain ⟨T1, hT1⟩ : ∃ T, T = mixT p.fns (p.fns.map (hgR k o)) (i + 1) := ⟨_, rfl⟩
       rw [<- hT1] at hst
       generalize mixT p.fns (p.fns.map (hgR k o)) i = T0 at hml h2 hg hst |-
       have hq := zaE (fnC false) T0 h2
       have hci : ((i : Int) < (T0.length : Int)) = True := eq_true (by omega)
       have hss := zpe h2 o
       have hTT : ∀ y, T0[i] = y -> T0.set i y = T0 := fun y hy => by rw [<- hy, List.set_getElem_self]
       have hTT := hTT _ hg
       rw [hg] at hq hss
       generalize p.fns[i] = f at hg hst hq hss hTT
       simp only [fnC, cI, cS] at hq
       unfold hgR at hst
       cases h1 : f.ret == k with
       | false =>
         rw [h1, if_neg (by decide), hTT] at hst
         simp +decide only [e, hci, h2, hq, h1, Int.natCast_nonneg, vB, vI, zd, za, hpin, hpin2, go_sem, reduceAdd, reduceMul]
         refine ⟨i + 1, h', by omega, Ent.weak ?_ ?_ ?_ ?_⟩
         all_goals simp +decide [ye, subT, subB, zl, zk, zn, St.get, look, vI, vB, vS, cI, cS, cB, zh, za, roI, <- hT1, <- hst, w64s (n := p.fns.length) h' (by omega)]
       | true =>
         rw [h1, if_pos rfl] at hst
         rw [hst] at hss
         have hss3 : (rows (fnC false) T0).set i (((rows (fnC false) T0)[i]?.getD []).set 4 (D.sc (.int .i64 o))) = rows (fnC false) T1 := by rw [<- hss]; unfold zN; simp [List.getD]
         simp +decide only [e, hci, h2, hq, h1, hss, Int.natCast_nonneg, vB, vI, zd, za, hpin, hpin2, go_sem, reduceAdd, reduceMul]
         refine ⟨i + 1, h', by omega, Ent.weak ?_ ?_ ?_ ?_⟩
         all_goals simp +decide [ye, subT, subB, zl, zk, zn, St.get, look, vI, vB, vS, cI, cS, cB, zh, za, roI, <- hT1, hss, hss3, w64s (n := p.fns.length) h' (by omega)]
     · have hil : i = p.fns.length := by omega
       subst hil
       have e : ((p.fns.length : Int) < (p.fns.length : Int)) = False := by simp
       simp +decide only [e, zfZ hFl, hgP, vB, vI, zd, za, hpin, hpin2, go_sem, reduceAdd, reduceMul]
theorem zlU {α : Type} (f : α -> D) (l : List α) (n : Nat) : List.take n (row1 f l) = row1 f (l.take n) := by simp [row1, List.map_take]
theorem zlW {α : Type} (f : α -> D) (l : List α) (n : Nat) : List.drop n (row1 f l) = row1 f (l.drop n) := by simp [row1, List.map_drop]
theorem zfL {α : Type} (f : α -> D) (l m : List α) : row1 f l ++ row1 f m = row1 f (l ++ m) := by simp [row1]
theorem zjo (L O : List Int) (a b : Nat) (ha : a <= L.length) (hb : b <= L.length) (hL : L.length <= 1048576) (hO : O.length <= 1048576) : zw Tryz.prog 72 [.ro (roI L), .ro (.sc (.int .i64 a)), .ro (.sc (.int .i64 b)), .ro (roI O)] (fun rs st => rs = [(false, [.row false 3 (row1 cI (L.take a ++ O ++ L.drop b))])]) := by
 have hcp := zay (L.take a) (by simp; omega)
 simp only [roI] at hcp
 have ha1 : ((a : Int) <= (L.length : Int)) = True := eq_true (by omega)
 have hb1 : ((b : Int) <= (L.length : Int)) = True := eq_true (by omega)
 have hl1 : (L.take a).length = a := by simp; omega
 have hl2 : (L.take a ++ O).length = a + O.length := by simp; omega
 have hl3 : (L.drop b).length = L.length - b := by simp
 have hl4 : (L.take a ++ O ++ L.drop b).length = a + O.length + (L.length - b) := by simp; omega
 have hf1 := YM O
 have hf2 := YM (L.drop b)
 have c1 : a + O.length <= 140737488355328 := by omega
 have c2 : (a + O.length) * 8 <= 140737488355328 := by omega
 have c3 : a + O.length + (L.length - b) <= 140737488355328 := by omega
 have c4 : (a + O.length + (L.length - b)) * 8 <= 140737488355328 := by omega
 refine zm (fn := Tryz.f72) (c := Tryz.f72.body.getD .skip) (res := [.tm 8]) (n := 21) zg (by kernel_rfl) (by rfl) (by kernel_rfl) (by rfl) (by rfl) (by simp [zq]) (fun uf ub C hpin hpin2 hfull => ?_)
 simp only [Tryz.f72, Option.getD_some]
 refine Tri.step zg ?_
 simp +decide only [zd, za, hpin, hpin2, go_sem, reduceAdd, reduceMul]
 refine Tri.step zg ?_
 simp +decide only [ha1, zlU, Int.natCast_nonneg, zd, za, hpin, hpin2, go_sem, reduceAdd, reduceMul]
 refine ze hcp hpin ?_
 simp +decide only [hl1, hl2, hf1, c1, c2, zfL, zd, za, hpin, hpin2, go_sem, reduceAdd, reduceMul]
 refine zf zg _ ?_
 simp +decide only [hb1, hl2, hl3, hl4, hf2, c3, c4, zlW, zfL, Int.natCast_nonneg, Int.le_refl, zd, za, hpin, hpin2, go_sem, reduceAdd, reduceMul]
theorem zdP (L : List Int) (a : Nat) (n : Int) (ha : a <= L.length) (hL : L.length <= 1048576) : zw Tryz.prog 60 [.ro (roI L), .ro (.sc (.int .i64 a)), .ro (.sc (.int .i64 n))] (fun rs st => rs = [(false, [.row false 3 (row1 cI (L.take a ++ [n] ++ L.drop a))])]) := by
 have ha1 : ((a : Int) <= (L.length : Int)) = True := eq_true (by omega)
 have hl1 : (L.take a).length = a := by simp; omega
 have hl2 : (L.take a ++ [n]).length = a + 1 := by simp; omega
 have hl3 : (L.drop a).length = L.length - a := by simp
 have hl4 : (L.take a ++ [n] ++ L.drop a).length = a + 1 + (L.length - a) := by simp; omega
 have hf1 := YM (L.take a)
 have hf2 := YM (L.drop a)
 have c0 : a <= 140737488355328 := by omega
 have c9 : a * 8 <= 140737488355328 := by omega
 have c1 : a + 1 <= 140737488355328 := by omega
 have c2 : (a + 1) * 8 <= 140737488355328 := by omega
 have c3 : a + 1 + (L.length - a) <= 140737488355328 := by omega
 have c4 : (a + 1 + (L.length - a)) * 8 <= 140737488355328 := by omega
 have hsn := zdn cI (L.take a) n
 simp only [cI] at hsn
 refine zm (fn := Tryz.f60) (c := Tryz.f60.body.getD .skip) (res := [.tm 6]) (n := 22) zg (by kernel_rfl) (by rfl) (by kernel_rfl) (by rfl) (by rfl) (by simp [zq]) (fun uf ub C hpin hpin2 hfull => ?_)
 simp only [Tryz.f60, Option.getD_some]
 refine Tri.step zg ?_
 simp +decide only [zd, za, hpin, hpin2, go_sem, reduceAdd, reduceMul]
 refine Tri.step zg ?_
 simp +decide only [ha1, hl1, hf1, c0, c9, zlU, Int.natCast_nonneg, zd, za, hpin, hpin2, go_sem, reduceAdd, reduceMul]
 refine Tri.step zg ?_
 simp +decide only [hl1, hl2, hsn, c1, c2, zfL, zd, za, hpin, hpin2, go_sem, reduceAdd, reduceMul]
 refine zf zg _ ?_
 simp +decide only [ha1, hl2, hl3, hl4, hf2, c3, c4, zlW, zfL, Int.natCast_nonneg, Int.le_refl, zd, za, hpin, hpin2, go_sem, reduceAdd, reduceMul]
theorem zln (N : List NodeD) (F : List FnD) (x : NodeD) (hN : N.length <= 1048575) : SoundAt Tryz.prog 70 (fun uf => zq 0 [.ro (.bp 2000 0), .ro (.agg [.sc (.int .i64 x.kind), .sc (.int .i64 x.num), .sc (.string x.name), .ref 2001 [] x.kids.length])]) [(2001, .row 3 (row1 cI x.kids)), (2000, .box (za false ⟨N, F⟩))]
   (fun rs st => rs = [(false, [cI N.length])] /\ xB st.ob [(2000, .box (za false ⟨N ++ [x], F⟩))]) := by
 have hb1 : N.length + 1 <= 140737488355328 := by omega
 have hb2 : (N.length + 1) * 56 <= 140737488355328 := by omega
 have hsn := YH N x
 have w1 : IntKind.i64.wrap (((N.length + 1 : Nat) : Int) - 1) = N.length := by rw [show (((N.length + 1 : Nat) : Int) - 1) = N.length by omega]; exact w64 (by omega) (by omega)
 refine zm (fn := Tryz.f70) (c := Tryz.f70.body.getD .skip) (res := [.tm 4]) (n := 21) zg (by kernel_rfl) (by rfl) (by kernel_rfl) (by rfl) (by rfl) (by simp [zq]) (fun uf ub C hpin hpin2 hfull => ?_)
 simp only [Tryz.f70, Option.getD_some]
 refine Tri.step zg ?_
 simp +decide only [zd, za, hpin, hpin2, go_sem, reduceAdd, reduceMul]
 refine Tri.step zg ?_
 refine Tri.fork zg (.one 0 true (.one 1 true (.one 2 true (.one 3 true (.two 4 (.one 5 false (.one 6 false (.one 7 false (.one 8 false (.one 9 false (.one 10 false .done)))))) 5 (.two 4 (.one 6 false (.one 7 false (.one 8 false (.one 9 false (.one 10 false .done))))) 6 (.one 4 false (.one 7 false (.one 8 false (.one 9 false (.one 10 false .done))))))))))) zT (by kernel_rfl) (fun C2 hC2 => ?_)
 have hp2 := zU hC2 hpin
 simp +decide only [hb1, hb2, hsn, zd, za, hp2, hpin, hpin2, go_sem, reduceAdd, reduceMul]
 refine ⟨?_, ?_, ?_⟩ <;> refine zf zg _ ?_
 all_goals simp +decide only [w1, zd, za, hpin, hpin2, go_sem, reduceAdd, reduceMul]
theorem zjt (N : List NodeD) (F : List FnD) (k n : Int) (s : ByteArray) (hN : N.length <= 1048575) : SoundAt Tryz.prog 70 (fun uf => zq 0 [.ro (.bp 2000 0), .ro (.agg [.sc (.int .i64 k), .sc (.int .i64 n), .sc (.string s), .sc (.slice none 0 0)])]) [(2000, .box (za false ⟨N, F⟩))]
   (fun rs st => rs = [(false, [cI N.length])] /\ xB st.ob [(2000, .box (za false ⟨N ++ [⟨k, n, s, []⟩], F⟩))]) := by
 have hb1 : N.length + 1 <= 140737488355328 := by omega
 have hb2 : (N.length + 1) * 56 <= 140737488355328 := by omega
 have hsn := YH N ⟨k, n, s, []⟩
 have hnil : row1 cI [] = [] := rfl
 simp only [hnil] at hsn
 have w1 : IntKind.i64.wrap (((N.length + 1 : Nat) : Int) - 1) = N.length := by rw [show (((N.length + 1 : Nat) : Int) - 1) = N.length by omega]; exact w64 (by omega) (by omega)
 refine zm (fn := Tryz.f70) (c := Tryz.f70.body.getD .skip) (res := [.tm 4]) (n := 21) zg (by kernel_rfl) (by rfl) (by kernel_rfl) (by rfl) (by rfl) (by simp [zq]) (fun uf ub C hpin hpin2 hfull => ?_)
 simp only [Tryz.f70, Option.getD_some]
 refine Tri.step zg ?_
 simp +decide only [zd, za, hpin, hpin2, go_sem, reduceAdd, reduceMul]
 refine Tri.ent ?_ (Ent.nilr 3 3 3)
 refine Tri.step zg ?_
 refine Tri.fork zg (.one 0 true (.one 1 true (.one 2 true (.one 3 true (.two 4 (.one 5 false (.one 6 false (.one 7 false (.one 8 false (.one 9 false (.one 10 false .done)))))) 5 (.two 4 (.one 6 false (.one 7 false (.one 8 false (.one 9 false (.one 10 false .done))))) 6 (.one 4 false (.one 7 false (.one 8 false (.one 9 false (.one 10 false .done))))))))))) zT (by kernel_rfl) (fun C2 hC2 => ?_)
 have hp2 := zU hC2 hpin
 simp +decide only [hb1, hb2, hsn, zd, za, hp2, hpin, hpin2, go_sem, reduceAdd, reduceMul]
 refine ⟨?_, ?_, ?_⟩ <;> refine zf zg _ ?_
 all_goals simp +decide only [w1, zd, za, hpin, hpin2, go_sem, reduceAdd, reduceMul]
theorem zrz : fo Tryz.prog 134 0 = some 0 := by kernel_rfl
theorem zry : fo Tryz.prog 134 1 = some 2 := by kernel_rfl
theorem zrx : fo Tryz.prog 134 2 = some 3 := by kernel_rfl
theorem rLoS : isR Tryz.prog 134 = some true := by kernel_rfl
theorem sLoS : szT Tryz.prog 134 = 7 := by kernel_rfl
theorem zLoS : zeroCells Tryz.prog 134 = some [.slice none 0 0, .slice none 0 0, .slice none 0 0, .string ⟨#[]⟩, .int .i64 0, .slice none 0 0, .slice none 0 0] := by kernel_rfl
theorem zrj : xJ Tryz.prog 134 = some [(0, 2), (2, 1), (3, 4)] := by kernel_rfl
attribute [go_sem] zrz zry zrx rLoS sLoS zLoS zrj
def GoodS (p : ProgramD) (l : List VarD) (n : Nat) : Prop := Yl p l n = true
theorem GoodS.kid {p : ProgramD} {l : List VarD} {n : Nat} (h : GoodS p l n) (hn : n < p.nodes.length) {k : Int} (hk : k ∈ p.nodes[n].kids) : GoodS p l k.toNat := by
 unfold GoodS at h |-
 rw [zbB l hn, Bool.and_eq_true, List.all_eq_true] at h
 exact h.2 k hk
theorem GoodS.own {p : ProgramD} {l : List VarD} {n : Nat} (h : GoodS p l n) (hn : n < p.nodes.length) : stB p l n = true := by
 unfold GoodS at h
 rw [zbB l hn, Bool.and_eq_true] at h
 exact h.1
theorem zbf {p : ProgramD} (h : zZ p = true) : Zw p = true /\ ∀ i, i < p.fns.length -> yX p i = true := by
 unfold zZ at h
 obtain ⟨h1, h2⟩ := Bool.and_eq_true_iff.1 h
 unfold yx at h1
 exact ⟨(Bool.and_eq_true_iff.1 h1).1, xt.1 h2⟩
def grows (T T2 : List NodeD) (z : Nat) : Prop := ∃ E : List NodeD, T2 = T ++ E /\ E.length <= z /\ ∀ x ∈ E, x.kids.length <= 12
theorem grows.refl (T : List NodeD) (z : Nat) : grows T T z := ⟨[], by simp, by simp, fun x hx => by simp at hx⟩
theorem grows.trans {T T2 T3 : List NodeD} {a b : Nat} (h : grows T T2 a) (h2 : grows T2 T3 b) : grows T T3 (a + b) := by
 obtain ⟨E, rfl, e1, e2⟩ := h
 obtain ⟨G, rfl, g1, g2⟩ := h2
 refine ⟨E ++ G, by simp, by simp; omega, fun x hx => ?_⟩
 rcases List.mem_append.1 hx with hx | hx
 · exact e2 x hx
 · exact g2 x hx
theorem grows.mono {T T2 : List NodeD} {a b : Nat} (h : grows T T2 a) (hab : a <= b) : grows T T2 b := by
 obtain ⟨E, h1, h2, h3⟩ := h
 exact ⟨E, h1, by omega, h3⟩
theorem grows.len {T T2 : List NodeD} {a : Nat} (h : grows T T2 a) : T.length <= T2.length /\ T2.length <= T.length + a := by
 obtain ⟨E, rfl, h2, _⟩ := h
 simp; omega
theorem grows.get {T T2 : List NodeD} {a : Nat} (h : grows T T2 a) {n : Nat} (hn : n < T.length) : n < T2.length /\ nAt T2 n = nAt T n := by
 obtain ⟨E, rfl, _, _⟩ := h
 have h2 : n < (T ++ E).length := by simp; omega
 refine ⟨h2, ?_⟩
 rw [zH h2, zH hn, List.getElem_append_left hn]
theorem Xb {X : List NodeD} {a : Nat} (h : a < X.length) (k : Nat) (y : NodeD) : nAt (X.set k y) (a : Int) = if k = a then y else nAt X (a : Int) := by
 have h2 : a < (X.set k y).length := by simpa using h
 rw [zH h2, zH h, List.getElem_set]
theorem zmp {X : List NodeD} {a : Nat} (h : a < X.length) (k o : Int) : nAt (hgN k o X) (a : Int) = hgX k o a (nAt X (a : Int)) := by
 have h2 : a < (hgN k o X).length := by rw [yv]; exact h
 rw [zH h2, zH h, zgk]
def Cx.repin (C : Cx) (o : Nat) (x : Option (Value × Nat × Nat)) : Cx := ⟨C.w0, C.s0, C.may, fun k => if k = o then x else C.pin k, C.z⟩
theorem Cx.repin_repin (C : Cx) (o : Nat) (x y : Option (Value × Nat × Nat)) : (C.repin o x).repin o y = C.repin o y := by
 unfold Cx.repin
 simp only
 congr 1
 funext k
 split
 · rfl
 · rfl
theorem Cx.repin_full {C : Cx} (h : C.full) (o : Nat) (x : Option (Value × Nat × Nat)) : (C.repin o x).full := h
theorem Cx.repin_pin {C : Cx} (h : ∀ o, xj o = false -> C.pin o = none) {k : Nat} (hk : xj k = true) (x : Option (Value × Nat × Nat)) : ∀ o, xj o = false -> (C.repin k x).pin o = none := fun o ho => by
 unfold Cx.repin
 simp only
 rw [if_neg (fun e => by rw [e, hk] at ho; cases ho)]
 exact h o ho
theorem Cx.repin_self (C : Cx) (k : Nat) (x : Option (Value × Nat × Nat)) : (C.repin k x).pin k = x := by simp [Cx.repin]
theorem Cx.repin_other (C : Cx) {k o : Nat} (h : o ≠ k) (x : Option (Value × Nat × Nat)) : (C.repin k x).pin o = C.pin o := by simp [Cx.repin, h]
noncomputable def St.back (k o : Nat) (p : List (Nat × Nat)) (v : Value) (st : St) : St := open Classical in match look st.ob k with
 | some (.row e es) => (match look st.ob o with
   | some x => (match subO x p with
     | some (.sc u) => if u = v then (st.kill k).swap o (setO x p (.row false e es)) else st
     | _ => st)
   | none => st)
 | _ => st
noncomputable def zoG (k : Nat) (v : Value) (n : Nat) : V -> V
 | .sc u => open Classical in if u = v then .ref k [] n else .sc u
 | x => x
noncomputable def zpU (k : Nat) (v : Value) (n : Nat) : V -> V
 | .agg vs => .agg (vs.map (zoG k v n))
 | x => zoG k v n x
noncomputable def St.same (k : Nat) (v : Value) (t : Nat) (st : St) : St := match look st.ob k with
 | some (.row e es) => st.set t (zpU k v es.length (st.get t))
 | _ => st
section
variable {P : Program} {w w1 : World} {C : Cx} {X : Nat -> Prop} {gh gh1 : Gh} {st : St} {a : Act} {v : Value} {u : Value} {ob : List (Nat × Ob)} {S : Nat -> Prop} {K : St -> Prop}
theorem Rep.repin (h : Rep P C X st a w gh) (o : Nat) (x : Option (Value × Nat × Nat)) (hx : ∀ y, x = some y -> look st.ob o ≠ none -> (gh.hv o, gh.bb o, gh.bo o) = y) : Rep P (C.repin o x) X st a w gh where
 obs := h.obs
 dis := h.dis
 sS := h.sS
 nS := h.nS
 wrR := h.wrR
 wrB := h.wrB
 wrC := h.wrC
 kept := h.kept
 pins := fun o' y hp hn => by
   unfold Cx.repin at hp
   simp only at hp
   split at hp
   · rename_i e; subst e; exact hx y hp hn
   · exact h.pins o' y hp hn
 tms := h.tms
 nt := h.nt
 dfs := h.dfs
 xl := h.xl
 xS := h.xS
 xF := h.xF
 xW := h.xW
 s0S := h.s0S
 sZ := h.sZ
theorem Rep.unpin {o : Nat} {x : Option (Value × Nat × Nat)} (h : Rep P (C.repin o x) X st a w gh) (ho : look st.ob o = none) : Rep P C X st a w gh where
 obs := h.obs
 dis := h.dis
 sS := h.sS
 nS := h.nS
 wrR := h.wrR
 wrB := h.wrB
 wrC := h.wrC
 kept := h.kept
 pins := fun o' y hp hn => by
   by_cases e : o' = o
   · subst e; exact absurd ho hn
   · exact h.pins o' y (by rw [Cx.repin_other C e]; exact hp) hn
 tms := h.tms
 nt := h.nt
 dfs := h.dfs
 xl := h.xl
 xS := h.xS
 xF := h.xF
 xW := h.xW
 s0S := h.s0S
 sZ := h.sZ
theorem Ow.sliceV {e : TypeId} {es : List (List D)} {F : Nat -> Prop} (h : Ow P w S (.row false e es) u F) : ∃ A c, u = .slice A es.length c := by
 generalize hd : D.row false e es = d at h
 cases h with
 | dead => cases hd
 | sc => cases hd
 | shared => cases hd
 | row xs F own =>
   cases hd
   rcases own.2 with ⟨rfl, h0⟩ | ⟨g, cap, cur, rfl, _⟩
   · refine ⟨none, 0, ?_⟩
     first | rw [h0] | rw [h0.1] | rw [h0.2]
   · exact ⟨_, _, rfl⟩
theorem Tri.lift (k o : Nat) (p : List (Nat × Nat)) {e : TypeId} {es : List (List D)} {x : Ob} {c : Code} {Q : Exit -> St -> Prop} (ho : look st.ob o = some x) (hs : subO x p = some (.row false e es)) (hp : p ≠ []) (hk : look st.ob k = none)
   (h : ∀ y : Value × Nat × Nat, (∃ A c, y.1 = .slice A es.length c) -> Tri P (C.repin k (some y)) ((st.swap o (setO x p (.sc y.1))).put k (.row e es)) c (fun e s => look s.ob k = none /\ Q e s)) : Tri P C st c Q := fun a w gh hR => by
 obtain ⟨v', F', hn, how, hsub, hbb, hback⟩ := (hR.obs o x ho).part hs hp
 have hko : k ≠ o := fun e => by rw [e, ho] at hk; cases hk
 have h1 := hback (.sc v') (fun _ => False) (.sc how.one) (fun k hk => hk.elim)
 have h2 := hR.swap (X' := F') ho (zbn hp _) (Nat.le_refl _) (fun _ _ _ _ _ _ => rfl) (fun _ _ => rfl) (World.keptBut_refl w _) h1 (fun k hk => Or.inl (hk.elim (fun h => h.1) False.elim)) (fun k hk => ⟨Or.inl (hsub k hk), fun h => h.elim (fun h => h.2 hk) id⟩) (fun cs k e hk he => hbb cs e (he ▸ hk))
 have hk2 : look (st.swap o (setO x p (.sc v'))).ob k = none := by rw [yf, if_neg hko]; exact hk
 have h3 := h2.repin k none (fun y hy => by cases hy)
 have h4 := h3.lay (o := k) (x := .row e es) (v' := v') (b := 0) (f := 0) (F := F') hk2 (Cx.repin_self C k none) (.row (by simpa [Gh.upd] using how)) (fun _ h => h)
 have h5 := (h4.less (X' := No) (fun _ hk => hk.elim)).repin k (some (v', 0, 0)) (fun y hy _ => by cases hy; simp [Gh.upd])
 rw [Cx.repin_repin] at h5
 exact Code.wp_mono (fun e a' w' ⟨s, g, hq, hr⟩ => ⟨s, g, hq.2, hr.unpin hq.1⟩) (h (v', 0, 0) how.sliceV a w _ h5)
theorem Ent.back {k o : Nat} {p : List (Nat × Nat)} {x0 : Nat × Nat} (hpk : C.pin k = some (v, x0)) (hko : k ≠ o) (hp : p ≠ []) : Ent P C st (st.back k o p v) := fun a w gh hR => by
 unfold St.back
 split
 case h_2 => exact ⟨gh, hR⟩
 rename_i e es hk
 split
 case h_2 => exact ⟨gh, hR⟩
 rename_i x ho
 split
 case h_2 => exact ⟨gh, hR⟩
 rename_i u hs
 split
 case isFalse => exact ⟨gh, hR⟩
 rename_i huv
 have hv : gh.hv k = v := by
   have := hR.pins k _ hpk (by rw [hk]; simp)
   exact congrArg (·.1) this
 have h1 := hR.take hk
 have ho1 : look (st.kill k).ob o = some x := by
   show look (drop st.ob k) o = some x
   rw [yg, if_neg hko]; exact ho
 obtain ⟨v', F', hn, how, hsub, hbb, hback⟩ := (h1.obs o x ho1).part hs hp
 have hrow : Ow P w gh.S (.row false e es) (gh.hv k) (gh.F k) := by
   have := hR.obs k _ hk
   cases this with | row h => exact h
 have huv' : v' = u /\ ∀ k, ¬ F' k := by
   generalize hd : D.sc u = d at how
   cases how with
   | dead => cases hd
   | sc => cases hd; exact ⟨rfl, fun _ h => h⟩
   | shared => cases hd
   | row => cases hd
 have hdis : ∀ j, gh.F k j -> ¬ gh.F o j := fun j h1 h2 => hko (hR.dis k o _ _ j hk ho h1 h2)
 rw [hv, <- huv, <- huv'.1] at hrow
 have h2 := hback (.row false e es) (gh.F k) hrow (fun j g1 g2 => absurd g2 (hdis j g1))
 exact ⟨_, h1.swap (X' := No) ho1 (zbn hp _) (Nat.le_refl _) (fun _ _ _ _ _ _ => rfl) (fun _ _ => rfl) (World.keptBut_refl w _) h2 (fun j hj => hj.elim (fun h => Or.inl h.1) (fun h => Or.inr (Or.inr h))) (fun _ hk => hk.elim) (fun _ _ _ hk => hk.elim)⟩
def cutB (P : Program) (C : Cx) (ops : Array Oper) (l : List Oper) (K : St -> Prop) (st : St) : Prop := ∀ a w gh, Rep P C No st a w gh -> ∃ s2 gh', Rep P C No s2 a w gh' /\ aOps P C ops l s2 K
theorem zpC {ops : Array Oper} {l : List Oper} {K : St -> Prop} {st s2 : St} (h : aOps P C ops l s2 K) (he : Ent P C st s2) : cutB P C ops l K st := fun a w gh hR => by
 obtain ⟨g, hg⟩ := he a w gh hR
 exact ⟨s2, g, hg, h⟩
theorem ziK (hz : xp P) {ops : Array Oper} {Q : Exit -> Act -> World -> Prop} (l2 : List Oper) : ∀ (l : List Oper) {st : St} {a : Act} {w : World} {gh : Gh}, Rep P C No st a w gh -> aOps P C ops l st (cutB P C ops l2 K) -> (∀ a w, Up P C K a w -> Q .normal a w) -> wpList P ops Q (l ++ l2) a w
 | [], st, a, w, gh, h, hk, hQ => by
   obtain ⟨s2, g', h', hk⟩ := hk a w gh h
   exact zbh hz l2 h' hk hQ
 | o :: r, st, a, w, gh, h, hk, hQ => by
   obtain ⟨hd, hk⟩ := hk
   have := ZQ (Q := Q) hz h hd hk
   rw [List.cons_append]
   unfold wpList
   split
   · rename_i hw
     rw [if_pos hw] at this
     exact Or.inl (Oper.wp_mono (fun a' w' ⟨st', gh', hk', h'⟩ => ziK hz l2 r h' hk' hQ) this)
   · rename_i hw
     rw [if_neg hw] at this
     obtain ⟨st', gh', hk', h'⟩ := this
     exact ziK hz l2 r h' hk' hQ
theorem Tri.cut (hz : xp P) (n : Nat) {id : Nat} {ops : Array Oper} {Q : Exit -> St -> Prop} (h : aOps P C ops (ops.toList.take n) st (cutB P C ops (ops.toList.drop n) (Q .normal))) : Tri P C st (.region id ops false) Q := fun a w gh hR => by
 refine wp_region_list ?_
 have := ziK (Q := fun e a' w' => Up P C (Q e) a' w') hz (ops.toList.drop n) (ops.toList.take n) hR h (fun a w h => h)
 rwa [List.take_append_drop] at this
end
attribute [go_sem] St.back St.same zpU zoG
def kidD (h : Option Value) (ks : List Int) : D := match h with
 | none => .row false 3 (row1 cI ks)
 | some v => .sc v
def zbP (h : Option Value) (x : NodeD) : List D := [.sc (.int .i64 x.kind), .sc (.int .i64 x.num), .sc (.string x.name), kidD h x.kids]
def yi (H : Nat -> Option Value) (T : List NodeD) : List (List D) := T.mapIdx (fun i x => zbP (H i) x)
def upH (H : Nat -> Option Value) (n : Nat) (v : Value) : Nat -> Option Value := fun i => if i = n then some v else H i
theorem zu (H : Nat -> Option Value) (T : List NodeD) : (yi H T).length = T.length := by simp [yi]
theorem zbL (T : List NodeD) : yi (fun _ => none) T = rows (zh false) T := by
 apply List.ext_getElem
 · simp [yi, rows]
 · intro i h1 h2
   simp [yi, rows, zbP, zh, kidD, cI, cS]
theorem zaa (H : Nat -> Option Value) {T : List NodeD} {i : Nat} (h : i < T.length) : (yi H T)[i]? = some (zbP (H i) T[i]) := by simp [yi, h]
theorem zlR (H : Nat -> Option Value) {T : List NodeD} {n : Nat} (h : n < T.length) (v : Value) : zN (yi H T) n 3 (.sc v) = yi (upH H n v) T := by
 unfold zN
 rw [List.getD_eq_getElem?_getD, zaa H h]
 apply List.ext_getElem
 · simp [yi]
 · intro i h1 h2
   rw [List.getElem_set]
   split
   · rename_i e; subst e
     simp [yi, zbP, upH, kidD]
   · rename_i e
     have : ¬ i = n := fun e' => e e'.symm
     simp [yi, zbP, upH, this]
theorem zeV (H : Nat -> Option Value) {T : List NodeD} {n : Nat} (h : n < T.length) (hn : H n = none) (v : Value) : zN (yi (upH H n v) T) n 3 (.row false 3 (row1 cI T[n].kids)) = yi H T := by
 unfold zN
 rw [List.getD_eq_getElem?_getD, zaa _ h]
 apply List.ext_getElem
 · simp [yi]
 · intro i h1 h2
   rw [List.getElem_set]
   split
   · rename_i e; subst e
     simp [yi, zbP, upH, kidD, hn]
   · rename_i e
     have : ¬ i = n := fun e' => e e'.symm
     simp [yi, zbP, upH, this]
theorem zkA (H : Nat -> Option Value) (T : List NodeD) (x : NodeD) (h : H T.length = none) : yi H T ++ [[D.sc (.int .i64 x.kind), .sc (.int .i64 x.num), .sc (.string x.name), .row false 3 (row1 cI x.kids)]] = yi H (T ++ [x]) := by
 apply List.ext_getElem
 · simp [yi]
 · intro i h1 h2
   simp only [yi, List.length_append, List.length_mapIdx, List.length_singleton] at h1
   by_cases hi : i < T.length
   · rw [List.getElem_append_left (by simpa [yi] using hi)]
     simp only [yi, List.getElem_mapIdx]
     rw [List.getElem_append_left hi]
   · have : i = T.length := by omega
     subst this
     rw [List.getElem_append_right (by simp [yi])]
     simp [yi, zbP, h, kidD]
theorem zlC {H : Nat -> Option Value} {T : List NodeD} {n : Nat} (h : n < T.length) (hn : H n = none) (G : D) : subO (.box [.row false 83 (yi H T), G]) [(0, 0), (n, 3)] = some (.row false 3 (row1 cI T[n].kids)) := by
 simp [subO, subD, cellAt, zaa H h, zbP, hn, kidD]
theorem zlK {H : Nat -> Option Value} {T : List NodeD} {n : Nat} (h : n < T.length) (v : Value) (G : D) : setO (.box [.row false 83 (yi H T), G]) [(0, 0), (n, 3)] (.sc v) = .box [.row false 83 (yi (upH H n v) T), G] := by
 have e := zlR H h v
 simp only [setO, List.getD, List.getElem?_cons_zero, Option.getD_some, List.set_cons_zero, setD, e]
theorem zkL (l : List ParamD) : shLL (rows (zy false) l) = rows (zy true) l := by
 rw [yR]
 simp only [rows, List.map_map]
 apply List.map_congr_left
 intro x _
 simp [zy, shL, shD, cI, cS]
theorem zhD (l : List NodeD) : shLL (rows (zh false) l) = rows (zh true) l := by
 rw [yR]
 simp only [rows, List.map_map]
 apply List.map_congr_left
 intro x _
 simp [zh, shL, shD, cI, cS, xy]
theorem zmD (l : List FnD) : shLL (rows (fnC false) l) = rows (fnC true) l := by
 rw [yR]
 simp only [rows, List.map_map]
 apply List.map_congr_left
 intro x _
 have h := zkL x.params
 simp only [rows] at h
 simp [fnC, shL, shD, cI, cS, rows, h]
structure CallIs (p : ProgramD) (n j : Nat) : Prop where
 right : Right p
 few : ∀ m, m < p.nodes.length -> szB p.nodes m <= 360000
 hn : n < p.nodes.length
 hj : j < p.fns.length
 at_ : xO p.fns p.nodes[n].name = j
 kids : p.nodes[n].kids.length = p.fns[j].params.length
 body : 0 <= p.fns[j].body /\ p.fns[j].body.toNat < p.nodes.length
 ret : p.fns[j].ret < 0 \/ (0 <= p.fns[j].ret /\ p.fns[j].ret.toNat < p.nodes.length)
 params : p.fns[j].params.length <= 3
 kind : p.nodes[n].kind = 12
section
variable {P : Program} {w w1 : World} {C : Cx} {X : Nat -> Prop} {gh gh1 : Gh} {st : St} {a : Act} {v : Value} {u : Value} {ob : List (Nat × Ob)} {S : Nat -> Prop} {K : St -> Prop}
end
theorem znS (p q : ProgramD) (h : zG p <= 1048576) : zG (finP p q) <= 1048576 := by
 unfold finP
 cases hO : zby q with
 | false => rw [if_neg (by decide)]; exact h
 | true =>
   rw [if_pos rfl]
   unfold zby at hO
   have hR := (Bool.and_eq_true_iff.1 hO).2
   exact Nat.le_trans (zkD (yA (zbf hR).1)) (by decide)
open Classical in
noncomputable def zaq (nodes : List NodeD) (k : Nat) (b : Int) : List Int -> Nat -> Option (Int × Int × Int)
 | [], _ => none
 | s :: r, i => if RB nodes s.toNat k then some (b, (i : Int), s) else zaq nodes k b r (i + 1)
noncomputable def XF (a b : Option (Int × Int × Int)) : Option (Int × Int × Int) := match a with
 | some x => some x
 | none => b
noncomputable def xc (nodes : List NodeD) (k : Nat) : List Int -> Option (Int × Int × Int)
 | [] => none
 | b :: r => if (nAt nodes b).kind == 20 then XF (zaq nodes k b (nAt nodes b).kids 0) (xc nodes k r) else xc nodes k r
theorem zhU {nodes : List NodeD} {k : Nat} {b s : Int} {r : List Int} {i : Nat} (h : RB nodes s.toNat k) : zaq nodes k b (s :: r) i = some (b, (i : Int), s) := by simp [zaq, h]
theorem zgq {nodes : List NodeD} {k : Nat} {b s : Int} {r : List Int} {i : Nat} (h : ¬ RB nodes s.toNat k) : zaq nodes k b (s :: r) i = zaq nodes k b r (i + 1) := by simp [zaq, h]
theorem zfh {nodes : List NodeD} {k : Nat} {b : Int} : ∀ (l : List Int) (i : Nat), (∀ s ∈ l, ¬ RB nodes s.toNat k) -> zaq nodes k b l i = none
 | [], _, _ => rfl
 | s :: r, i, h => by rw [zgq (h s List.mem_cons_self)]; exact zfh r (i + 1) (fun y hy => h y (List.mem_cons_of_mem _ hy))
theorem zfi {nodes : List NodeD} {k : Nat} : ∀ (l : List Int), (∀ b ∈ l, ∀ s ∈ (nAt nodes b).kids, ¬ RB nodes s.toNat k) -> xc nodes k l = none
 | [], _ => rfl
 | b :: r, h => by
   unfold xc
   rw [zfh _ _ (h b List.mem_cons_self), zfi r (fun y hy => h y (List.mem_cons_of_mem _ hy))]
   simp [XF]
noncomputable def ZJ (p : ProgramD) (fn k : Int) : Option (Int × Int × Int) :=
 if inI fn 0 (p.fns.length - 1) && (!(zR p.nodes k == 0) && xb (nAt p.nodes k).kind) then xc p.nodes k.toNat (zY p.nodes (fAt p.fns fn).body) else none
def out3 (o : Option (Int × Int × Int)) : Int × Int × Int := match o with
 | some x => x
 | none => (-1, -1, -1)
def rs3 (o : Option (Int × Int × Int)) : List RV := [(false, [cI (out3 o).1]), (false, [cI (out3 o).2.1]), (false, [cI (out3 o).2.2])]
theorem YQ {nodes : List NodeD} {k x : Int} (h : x ∈ zY nodes k) : 0 <= x /\ x.toNat < nodes.length /\ dAt nodes x.toNat ≠ 0 := by
 have h1 := YC h
 refine ⟨h1.1, h1.2.1, ?_⟩
 unfold zY at h
 cases hd : zR nodes k == 0 with
 | true => simp [hd] at h
 | false =>
   obtain ⟨n, rfl, hn, hdn⟩ := xQ hd
   exact xo nodes (h1.2.2.le hdn) hdn
theorem zoE {p : ProgramD} {fn k : Int} (h0 : inI fn 0 (p.fns.length - 1) = true) (h1 : inI k 0 (p.nodes.length - 1) = true) (h2 : xb (nAt p.nodes k).kind = true) : ZJ p fn k = xc p.nodes k.toNat (zY p.nodes (fAt p.fns fn).body) := by
 unfold ZJ
 rw [h0, h2, Bool.true_and, Bool.and_true]
 cases hd : zR p.nodes k == 0 with
 | false => simp
 | true =>
   symm
   simp only [Bool.not_true, Bool.false_eq_true, if_false]
   have hz : dAt p.nodes k.toNat = 0 := by
     have : zR p.nodes k = 0 := by simpa using hd
     unfold zR at this
     rw [h1, if_pos rfl] at this
     exact this
   refine zfi _ (fun b hb s hs hr => ?_)
   obtain ⟨g0, g1, g2⟩ := YQ hb
   rw [yI g1] at hs
   have h3 := (zgx g2 g1 hs).2
   exact xo p.nodes (hr.reach.le h3) h3 hz
theorem ziw (p : ProgramD) (fn k : Int) (hf : p.fns.length <= 1048576) (hn : p.nodes.length <= 1048576) (hk : ∀ x ∈ p.nodes, x.kids.length <= 1048576) : zw Tryz.prog 66 [.ro (zd p), .ro (.sc (.int .i64 fn)), .ro (.sc (.int .i64 k))] (fun rs st => rs = rs3 (ZJ p fn k)) := by
 classical
 refine zm (fn := Tryz.f66) (c := Tryz.f66.body.getD .skip) (res := [.tm 6, .tm 7, .tm 8]) (n := 81) zg (by kernel_rfl) (by rfl) (by kernel_rfl) (by rfl) (by rfl) (by simp [zq]) (fun uf ub C hpin hpin2 hfull => ?_)
 simp only [Tryz.f66, Option.getD_some]
 have w1 : IntKind.i64.wrap ((p.fns.length : Int) - 1) = (p.fns.length : Int) - 1 := w64 (by omega) (by omega)
 have w2 : IntKind.i64.wrap ((p.nodes.length : Int) - 1) = (p.nodes.length : Int) - 1 := w64 (by omega) (by omega)
 have hnone : rs3 none = [(false, [cI (-1)]), (false, [cI (-1)]), (false, [cI (-1)])] := rfl
 refine Tri.step zg ?_
 simp +decide only [zd, za, hpin, go_sem, reduceAdd, reduceMul]
 refine Tri.ent ?_ (Ent.frb hfull 3)
 refine Tri.step zg ?_
 simp +decide only [w1, zd, za, hpin, go_sem, reduceAdd, reduceMul]
 refine ze (in' fn 0 (p.fns.length - 1)) hpin ?_
 cases h0 : inI fn 0 (p.fns.length - 1) with
 | false =>
   have hs : ZJ p fn k = none := by simp [ZJ, h0]
   simp +decide only [hs, hnone, hpin, go_sem, reduceAdd, reduceMul]
 | true =>
 simp +decide only [w2, zd, za, hpin, go_sem, reduceAdd, reduceMul]
 refine ze (in' k 0 (p.nodes.length - 1)) hpin ?_
 cases h1 : inI k 0 (p.nodes.length - 1) with
 | false =>
   have hs : ZJ p fn k = none := by simp [ZJ, zR, h0, h1]
   simp +decide only [hs, hnone, hpin, go_sem, reduceAdd, reduceMul]
 | true =>
 have hr0 := zx h0
 have hr1 := zx h1
 obtain ⟨f, rfl⟩ : ∃ f : Nat, fn = f := ⟨fn.toNat, by omega⟩
 obtain ⟨n, rfl⟩ : ∃ n : Nat, k = n := ⟨k.toNat, by omega⟩
 have hfl : f < p.fns.length := by omega
 have hnl : n < p.nodes.length := by omega
 have c1 : ((f : Int) < (p.fns.length : Int)) = True := eq_true (by omega)
 have c2 : ((n : Int) < (p.nodes.length : Int)) = True := eq_true (by omega)
 simp +decide only [c2, zj _ _ hnl, zh, zd, za, Int.natCast_nonneg, hpin, go_sem, reduceAdd, reduceMul]
 refine ze (ZA p.nodes[n].kind) hpin ?_
 cases h2 : xb p.nodes[n].kind with
 | false =>
   have hs : ZJ p f n = none := by simp [ZJ, zH hnl, h2]
   simp +decide only [hs, hnone, hpin, go_sem, reduceAdd, reduceMul]
 | true =>
 have hse := zoE h0 h1 (by rw [zH hnl]; exact h2)
 rw [xk hfl, Int.toNat_natCast] at hse
 rw [hse]
 simp +decide only [zd, za, hpin, go_sem, reduceAdd, reduceMul]
 refine Tri.step zg ?_
 simp +decide only [zd, za, hpin, go_sem, reduceAdd, reduceMul]
 refine Tri.sched zg [(1, true), (3, true), (9, true), (0, true), (2, false), (4, false), (5, false), (6, false), (7, false), (8, false)] zT (by kernel_rfl) (fun C2 hC2 => ?_)
 have hp2 := zU hC2 hpin
 simp +decide only [c1, zj _ _ hfl, fnC, zd, za, Int.natCast_nonneg, hp2, go_sem, reduceAdd, reduceMul]
 refine ze (Xv p p.fns[f].body hn hk) hp2 ?_
 simp +decide only [zd, za, hp2, go_sem, reduceAdd, reduceMul]
 have hul := xA p.nodes p.fns[f].body
 have hmem : ∀ i (hi : i < (zY p.nodes p.fns[f].body).length), 0 <= (zY p.nodes p.fns[f].body)[i] /\ (zY p.nodes p.fns[f].body)[i].toNat < p.nodes.length /\ dAt p.nodes (zY p.nodes p.fns[f].body)[i].toNat ≠ 0 := fun i hi => YQ (List.getElem_mem hi)
 generalize zY p.nodes p.fns[f].body = L at hul hmem |-
 refine Tri.loop (ι := Nat) (fun i => i <= L.length /\ xc p.nodes n L = xc p.nodes n (L.drop i)) (fun i => ⟨81, [(2, vI n), (3, .ip (za true p) 0), (46, .ref 3046 [] L.length), (47, vI L.length), (48, vI i)], [(3046, .row 3 (row1 cI L))]⟩) (fun i => L.length - i) 0 ⟨by simp, rfl⟩ ?_ ?_
 · refine Ent.weak ?_ ?_ ?_ ?_ <;> simp +decide [subT, subB, zl, zk, zn, St.get, look, vI, vB, vS, cI, cS, cB, zh, roI, za]
 · rintro i ⟨hi, hq⟩
   refine zf zg _ ?_
   by_cases h' : i < L.length
   · have e : ((i : Int) < (L.length : Int)) = True := by simp [h']
     obtain ⟨g0, g1, g2⟩ := hmem i h'
     have z0 : (0 <= L[i]) = True := eq_true g0
     have z1 : (L[i] < (p.nodes.length : Int)) = True := eq_true (by omega)
     have hat : nAt p.nodes L[i] = p.nodes[L[i].toNat] := yI g1
     have hkx := hk p.nodes[L[i].toNat] (List.getElem_mem g1)
     obtain ⟨_, hkid⟩ := xV g2
     have hkd : ∀ s ∈ p.nodes[L[i].toNat].kids, dAt p.nodes s.toNat ≠ 0 := fun s hs => (zgx g2 g1 hs).2
     have hdr : L.drop i = L[i] :: L.drop (i + 1) := List.drop_eq_getElem_cons h'
     rw [hdr] at hq
     generalize hx : p.nodes[L[i].toNat] = x at hat hkx hkid hkd
     simp +decide only [e, z0, z1, h', yr _ _ h', zj _ _ g1, hx, bne, zh, za, Int.natCast_nonneg, vB, vI, hpin, go_sem, reduceAdd, reduceMul]
     cases hb : x.kind == 20 with
     | false =>
       have hq2 : xc p.nodes n L = xc p.nodes n (L.drop (i + 1)) := by rw [hq, xc, hat, hb]; simp
       simp +decide only [zd, za, hpin, go_sem, reduceAdd, reduceMul]
       refine ⟨i + 1, ⟨h', hq2⟩, by omega, Ent.weak ?_ ?_ ?_ ?_⟩
       all_goals simp +decide [subT, subB, zl, zk, zn, St.get, look, vI, vB, vS, cI, cS, cB, zh, roI, za, w64s (n := L.length) h' (by omega)]
     | true =>
       have hq2 : xc p.nodes n L = XF (zaq p.nodes n L[i] x.kids 0) (xc p.nodes n (L.drop (i + 1))) := by rw [hq, xc, hat, hb]; simp
       simp +decide only [z0, z1, zj _ _ g1, hx, zh, za, Int.natCast_nonneg, hpin, go_sem, reduceAdd, reduceMul]
       refine Tri.loop (ι := Nat) (fun j => j <= x.kids.length /\ xc p.nodes n L = XF (zaq p.nodes n L[i] (x.kids.drop j) j) (xc p.nodes n (L.drop (i + 1)))) (fun j => ⟨81, [(2, vI n), (3, .ip (za true p) 0), (10, vI L[i]), (46, .ref 3046 [] L.length), (47, vI L.length), (48, vI i), (64, roI x.kids), (65, vI x.kids.length), (66, vI j)], [(3046, .row 3 (row1 cI L))]⟩) (fun j => x.kids.length - j) 0 ⟨by simp, hq2⟩ ?_ ?_
       · refine Ent.weak ?_ ?_ ?_ ?_ <;> simp +decide [subT, subB, zl, zk, zn, St.get, look, vI, vB, vS, cI, cS, cB, zh, roI, za]
       · rintro j ⟨hj, hq3⟩
         refine zf zg _ ?_
         by_cases hj' : j < x.kids.length
         · have e2 : ((j : Int) < (x.kids.length : Int)) = True := by simp [hj']
           have hsm := List.getElem_mem hj'
           obtain ⟨q0, q1, q2⟩ := hkid x.kids[j] hsm
           have hds := hkd x.kids[j] hsm
           have hdk : x.kids.drop j = x.kids[j] :: x.kids.drop (j + 1) := List.drop_eq_getElem_cons hj'
           rw [hdk] at hq3
           have hrs := zhj p x.kids[j].toNat hds hn hk
           rw [show ((x.kids[j].toNat : Nat) : Int) = x.kids[j] by omega] at hrs
           simp +decide only [e2, zr _ _ hj', za, Int.natCast_nonneg, vB, vI, hpin, go_sem, reduceAdd, reduceMul]
           refine zcR hrs hpin ?_ (fun l hl => ?_)
           · simp +decide only [zd, za, hpin, go_sem, reduceAdd, reduceMul]
           obtain ⟨hl1, hl2⟩ := hl
           refine ⟨by simp [zbR, Zp, noSh, xz], ?_⟩
           simp +decide only [zB, XK, hpin, go_sem, reduceAdd, reduceMul]
           refine ze (Yw (ints l) n (by rw [zB]; omega)) hpin ?_
           simp +decide only [zB, XK, hpin, go_sem, reduceAdd, reduceMul]
           rw [zjV (Int.natCast_nonneg n), Int.toNat_natCast]
           by_cases hR : RB p.nodes x.kids[j].toNat n
           · have hc : l.contains n = true := by simpa using (hl1 n).2 hR
             rw [zhU hR] at hq3
             have hq4 : xc p.nodes n L = some (L[i], (j : Int), x.kids[j]) := hq3
             simp +decide only [hc, hq4, rs3, out3, hpin, go_sem, reduceAdd, reduceMul]
           · have hc : l.contains n = false := by
               cases h : l.contains n with
               | false => rfl
               | true => exact (hR ((hl1 n).1 (by simpa using h))).elim
             rw [zgq hR] at hq3
             simp +decide only [hc, hpin, go_sem, reduceAdd, reduceMul]
             refine ⟨j + 1, ⟨hj', hq3⟩, by omega, Ent.weak ?_ ?_ ?_ ?_⟩
             all_goals simp +decide [subT, subB, zl, zk, zn, St.get, look, vI, vB, vS, cI, cS, cB, zh, roI, za, w64s (n := x.kids.length) hj' (by omega)]
         · have hjl : j = x.kids.length := by omega
           subst hjl
           have e2 : ((x.kids.length : Int) < (x.kids.length : Int)) = False := by simp
           rw [List.drop_length] at hq3
           have hq4 : xc p.nodes n L = xc p.nodes n (L.drop (i + 1)) := hq3
           simp +decide only [e2, vB, vI, hpin, go_sem, reduceAdd, reduceMul]
           refine ⟨i + 1, ⟨h', hq4⟩, by omega, Ent.weak ?_ ?_ ?_ ?_⟩
           all_goals simp +decide [subT, subB, zl, zk, zn, St.get, look, vI, vB, vS, cI, cS, cB, zh, roI, za, w64s (n := L.length) h' (by omega)]
   · have hil : i = L.length := by omega
     subst hil
     have e : ((L.length : Int) < (L.length : Int)) = False := by simp
     rw [List.drop_length] at hq
     have hq4 : xc p.nodes n L = none := hq
     simp +decide only [e, hq4, hnone, vB, vI, hpin, go_sem, reduceAdd, reduceMul]
     refine zf zg _ ?_
     simp +decide only [hnone, hpin, go_sem, reduceAdd, reduceMul]
theorem ziv (p : ProgramD) (fn k : Int) (hf : p.fns.length <= 1048576) (hn : p.nodes.length <= 1048576) (hk : ∀ x ∈ p.nodes, x.kids.length <= 1048576) : zw Tryz.prog 57 [.ro (zd p), .ro (.sc (.int .i64 fn)), .ro (.sc (.int .i64 k))] (fun rs st => rs = rs3 (ZJ p fn k)) := by
 classical
 refine zm (fn := Tryz.f57) (c := Tryz.f57.body.getD .skip) (res := [.tm 6, .tm 7, .tm 8]) (n := 93) zg (by kernel_rfl) (by rfl) (by kernel_rfl) (by rfl) (by rfl) (by simp [zq]) (fun uf ub C hpin hpin2 hfull => ?_)
 simp only [Tryz.f57, Option.getD_some]
 have w1 : IntKind.i64.wrap ((p.fns.length : Int) - 1) = (p.fns.length : Int) - 1 := w64 (by omega) (by omega)
 have hnone : rs3 none = [(false, [cI (-1)]), (false, [cI (-1)]), (false, [cI (-1)])] := rfl
 refine Tri.step zg ?_
 simp +decide only [zd, za, hpin, go_sem, reduceAdd, reduceMul]
 refine Tri.ent ?_ (Ent.frb hfull 3)
 refine Tri.step zg ?_
 simp +decide only [w1, zd, za, hpin, go_sem, reduceAdd, reduceMul]
 refine ze (xH fn 0 (p.fns.length - 1)) hpin ?_
 cases h0 : inI fn 0 (p.fns.length - 1) with
 | false =>
   have hs : ZJ p fn k = none := by simp [ZJ, h0]
   simp +decide only [hs, hnone, hpin, go_sem, reduceAdd, reduceMul]
 | true =>
 simp +decide only [zd, za, hpin, go_sem, reduceAdd, reduceMul]
 refine ze (XO p.nodes k hn hk) hpin ?_
 cases h1 : zR p.nodes k == 0 with
 | true =>
   have hs : ZJ p fn k = none := by simp [ZJ, h1]
   simp +decide only [hs, hnone, h1, hpin, go_sem, reduceAdd, reduceMul]
 | false =>
 have hr0 := zx h0
 obtain ⟨n, rfl, hnl, hdn⟩ := xQ h1
 obtain ⟨f, rfl⟩ : ∃ f : Nat, fn = f := ⟨fn.toNat, by omega⟩
 have hfl : f < p.fns.length := by omega
 have c1 : ((f : Int) < (p.fns.length : Int)) = True := eq_true (by omega)
 have c2 : ((n : Int) < (p.nodes.length : Int)) = True := eq_true (by omega)
 simp +decide only [h1, c2, zj _ _ hnl, zh, zd, za, Int.natCast_nonneg, hpin, go_sem, reduceAdd, reduceMul]
 refine ze (Zz p.nodes[n].kind) hpin ?_
 cases h2 : xb p.nodes[n].kind with
 | false =>
   have hs : ZJ p f n = none := by simp [ZJ, zH hnl, h2]
   simp +decide only [h1, hs, hnone, hpin, go_sem, reduceAdd, reduceMul]
 | true =>
 have hse : ZJ p f n = xc p.nodes n (zY p.nodes p.fns[f].body) := by
   unfold ZJ
   rw [h0, h1, zH hnl, h2, xk hfl, Int.toNat_natCast]; rfl
 rw [hse]
 simp +decide only [h1, hpin, go_sem, reduceAdd, reduceMul]
 refine Tri.step zg ?_
 simp +decide only [zd, za, hpin, go_sem, reduceAdd, reduceMul]
 refine Tri.sched zg [(1, true), (3, true), (0, true), (2, false), (4, false), (5, false), (6, false), (7, false), (8, false)] zT (by kernel_rfl) (fun C2 hC2 => ?_)
 have hp2 := zU hC2 hpin
 simp +decide only [c1, zj _ _ hfl, fnC, zd, za, Int.natCast_nonneg, hp2, go_sem, reduceAdd, reduceMul]
 refine ze (zci p p.fns[f].body hn hk) hp2 ?_
 simp +decide only [zd, za, hp2, go_sem, reduceAdd, reduceMul]
 have hul := xA p.nodes p.fns[f].body
 have hmem : ∀ i (hi : i < (zY p.nodes p.fns[f].body).length), 0 <= (zY p.nodes p.fns[f].body)[i] /\ (zY p.nodes p.fns[f].body)[i].toNat < p.nodes.length /\ dAt p.nodes (zY p.nodes p.fns[f].body)[i].toNat ≠ 0 := fun i hi => YQ (List.getElem_mem hi)
 generalize zY p.nodes p.fns[f].body = L at hul hmem |-
 refine Tri.ent ?_ (Ent.frz hfull 9)
 refine Tri.step zg ?_
 simp +decide only [zd, za, hpin, go_sem, reduceAdd, reduceMul]
 refine Tri.loop (ι := Nat) (fun i => i <= L.length /\ xc p.nodes n L = xc p.nodes n (L.drop i)) (fun i => ⟨93, [(2, vI n), (3, .ip (za true p) 0), (9, roI L), (10, vI i)], []⟩) (fun i => L.length - i) 0 ⟨by simp, rfl⟩ ?_ ?_
 · refine Ent.weak ?_ ?_ ?_ ?_ <;> simp +decide [subT, subB, zl, zk, zn, St.get, look, vI, vB, vS, cI, cS, cB, zh, roI, za]
 · rintro i ⟨hi, hq⟩
   refine zf zg _ ?_
   by_cases h' : i < L.length
   · have e : ((i : Int) < (L.length : Int)) = True := by simp [h']
     obtain ⟨g0, g1, g2⟩ := hmem i h'
     have z0 : (0 <= L[i]) = True := eq_true g0
     have z1 : (L[i] < (p.nodes.length : Int)) = True := eq_true (by omega)
     have hat : nAt p.nodes L[i] = p.nodes[L[i].toNat] := yI g1
     have hkx := hk p.nodes[L[i].toNat] (List.getElem_mem g1)
     obtain ⟨_, hkid⟩ := xV g2
     have hkd : ∀ s ∈ p.nodes[L[i].toNat].kids, dAt p.nodes s.toNat ≠ 0 := fun s hs => (zgx g2 g1 hs).2
     have hdr : L.drop i = L[i] :: L.drop (i + 1) := List.drop_eq_getElem_cons h'
     rw [hdr] at hq
     generalize hx : p.nodes[L[i].toNat] = x at hat hkx hkid hkd
     simp +decide only [e, vB, vI, hpin, go_sem, reduceAdd, reduceMul]
     refine Tri.sched zg [(0, true), (2, true), (3, true), (4, true), (1, true), (5, false), (6, false), (7, false), (8, false), (9, false)] zT (by kernel_rfl) (fun C2 hC2 => ?_)
     have hp2 := zU hC2 hpin
     simp +decide only [e, z0, z1, h', zr _ _ h', zj _ _ g1, hx, bne, zh, za, Int.natCast_nonneg, vB, vI, hp2, go_sem, reduceAdd, reduceMul]
     cases hb : x.kind == 20 with
     | false =>
       have hq2 : xc p.nodes n L = xc p.nodes n (L.drop (i + 1)) := by rw [hq, xc, hat, hb]; simp
       simp +decide only [zd, za, hpin, go_sem, reduceAdd, reduceMul]
       refine ⟨i + 1, ⟨h', hq2⟩, by omega, Ent.weak ?_ ?_ ?_ ?_⟩
       all_goals simp +decide [subT, subB, zl, zk, zn, St.get, look, vI, vB, vS, cI, cS, cB, zh, roI, za, w64s (n := L.length) h' (by omega)]
     | true =>
       have hq2 : xc p.nodes n L = XF (zaq p.nodes n L[i] x.kids 0) (xc p.nodes n (L.drop (i + 1))) := by rw [hq, xc, hat, hb]; simp
       simp +decide only [hpin, go_sem, reduceAdd, reduceMul]
       refine Tri.sched zg [(0, true), (2, true), (3, true), (4, true), (1, true), (5, false), (6, false), (7, false), (8, false), (9, false)] zT (by kernel_rfl) (fun C2 hC2 => ?_)
       have hp2 := zU hC2 hpin
       simp +decide only [e, z0, z1, h', zr _ _ h', zj _ _ g1, hx, bne, zh, za, Int.natCast_nonneg, vB, vI, hp2, go_sem, reduceAdd, reduceMul]
       refine Tri.loop (ι := Nat) (fun j => j <= x.kids.length /\ xc p.nodes n L = XF (zaq p.nodes n L[i] (x.kids.drop j) j) (xc p.nodes n (L.drop (i + 1)))) (fun j => ⟨93, [(2, vI n), (3, .ip (za true p) 0), (9, roI L), (10, vI i), (11, roI x.kids), (12, vI j)], []⟩) (fun j => x.kids.length - j) 0 ⟨by simp, hq2⟩ ?_ ?_
       · refine Ent.weak ?_ ?_ ?_ ?_ <;> simp +decide [subT, subB, zl, zk, zn, St.get, look, vI, vB, vS, cI, cS, cB, zh, roI, za]
       · rintro j ⟨hj, hq3⟩
         refine zf zg _ ?_
         by_cases hj' : j < x.kids.length
         · have e2 : ((j : Int) < (x.kids.length : Int)) = True := by simp [hj']
           have hsm := List.getElem_mem hj'
           obtain ⟨q0, q1, q2⟩ := hkid x.kids[j] hsm
           have hds := hkd x.kids[j] hsm
           have hdk : x.kids.drop j = x.kids[j] :: x.kids.drop (j + 1) := List.drop_eq_getElem_cons hj'
           rw [hdk] at hq3
           have hrs := zkX p.nodes n hn hk x.kids[j].toNat hds
           rw [show ((x.kids[j].toNat : Nat) : Int) = x.kids[j] by omega] at hrs
           simp +decide only [e2, vB, vI, hpin, go_sem, reduceAdd, reduceMul]
           refine Tri.sched zg [(0, true), (2, true), (3, true), (4, true), (6, true), (1, true), (5, false), (7, false)] zT (by kernel_rfl) (fun C2 hC2 => ?_)
           have hp2 := zU hC2 hpin
           simp +decide only [e2, zr _ _ hj', za, Int.natCast_nonneg, vB, vI, hp2, go_sem, reduceAdd, reduceMul]
           refine ze hrs hp2 ?_
           simp +decide only [zd, za, hp2, go_sem, reduceAdd, reduceMul]
           by_cases hR : RB p.nodes x.kids[j].toNat n
           · have hc : decide (RB p.nodes x.kids[j].toNat n) = true := decide_eq_true hR
             rw [zhU hR] at hq3
             have hq4 : xc p.nodes n L = some (L[i], (j : Int), x.kids[j]) := hq3
             simp +decide only [hc, hpin, go_sem, reduceAdd, reduceMul]
             refine Tri.sched zg [(0, true), (1, true), (2, true), (4, true), (5, true), (6, true), (7, true), (3, true), (9, true), (10, true), (8, false), (11, false)] zT (by kernel_rfl) (fun C2 hC2 => ?_)
             have hp2 := zU hC2 hpin
             simp +decide only [e, e2, zr _ _ hj', zr _ _ h', hq4, rs3, out3, Int.natCast_nonneg, hp2, go_sem, reduceAdd, reduceMul]
           · have hc : decide (RB p.nodes x.kids[j].toNat n) = false := decide_eq_false hR
             rw [zgq hR] at hq3
             simp +decide only [hc, hpin, go_sem, reduceAdd, reduceMul]
             refine ⟨j + 1, ⟨hj', hq3⟩, by omega, Ent.weak ?_ ?_ ?_ ?_⟩
             all_goals simp +decide [subT, subB, zl, zk, zn, St.get, look, vI, vB, vS, cI, cS, cB, zh, roI, za, w64s (n := x.kids.length) hj' (by omega)]
         · have hjl : j = x.kids.length := by omega
           subst hjl
           have e2 : ((x.kids.length : Int) < (x.kids.length : Int)) = False := by simp
           rw [List.drop_length] at hq3
           have hq4 : xc p.nodes n L = xc p.nodes n (L.drop (i + 1)) := hq3
           simp +decide only [e2, vB, vI, hpin, go_sem, reduceAdd, reduceMul]
           refine ⟨i + 1, ⟨h', hq4⟩, by omega, Ent.weak ?_ ?_ ?_ ?_⟩
           all_goals simp +decide [subT, subB, zl, zk, zn, St.get, look, vI, vB, vS, cI, cS, cB, zh, roI, za, w64s (n := L.length) h' (by omega)]
   · have hil : i = L.length := by omega
     subst hil
     have e : ((L.length : Int) < (L.length : Int)) = False := by simp
     rw [List.drop_length] at hq
     have hq4 : xc p.nodes n L = none := hq
     simp +decide only [e, hq4, hnone, vB, vI, hpin, go_sem, reduceAdd, reduceMul]
     refine zf zg _ ?_
     simp +decide only [hnone, hpin, go_sem, reduceAdd, reduceMul]
theorem zbT {X : List NodeD} {a : Nat} (h : a < X.length) (Z : List NodeD) : nAt (X ++ Z) (a : Int) = nAt X (a : Int) := by
 have h2 : a < (X ++ Z).length := by simp; omega
 rw [zH h2, zH h, List.getElem_append_left h]
theorem zfW (X : List NodeD) (y : NodeD) : nAt (X ++ [y]) (X.length : Int) = y := by
 rw [zH (by simp)]
 simp
def zei (i : Nat) (x : Int) (y : NodeD) : NodeD := ⟨y.kind, y.num, y.name, y.kids.take i ++ [x] ++ y.kids.drop i⟩
def YA (T : List NodeD) (b i : Nat) (x : Int) : List NodeD := T.set b (zei i x (nAt T b))
theorem zcs (T : List NodeD) (b i : Nat) (x : Int) : (YA T b i x).length = T.length := by simp [YA]
def xL (s : ByteArray) : NodeD := ⟨2, 0, s, []⟩
def Zf (s : ByteArray) (k : Int) : NodeD := ⟨13, 0, s, [k]⟩
def exA (N : List NodeD) (k b i : Nat) (s : ByteArray) : List NodeD := YA (hgN k N.length (N ++ [xL s]) ++ [Zf s k]) b i (N.length + 1)
def exB (N : List NodeD) (k b i : Nat) (s : ByteArray) : List NodeD := YA (((N ++ [nAt N k]) ++ [Zf s N.length]).set k (xL s)) b i (N.length + 1)
def exPA (p : ProgramD) (k b i : Nat) (s : ByteArray) : ProgramD := ⟨exA p.nodes k b i s, p.fns.map (hgR k p.nodes.length)⟩
def exPB (p : ProgramD) (k b i : Nat) (s : ByteArray) : ProgramD := ⟨exB p.nodes k b i s, p.fns⟩
theorem zfn (N : List NodeD) (k b i : Nat) (s : ByteArray) : (exA N k b i s).length = N.length + 2 := by simp [exA, zcs, yv]
theorem zfm (N : List NodeD) (k b i : Nat) (s : ByteArray) : (exB N k b i s).length = N.length + 2 := by simp [exB, zcs]
theorem zow {N : List NodeD} {k b i : Nat} {s : ByteArray} (hk : k < N.length) (hb : b < N.length) {a : Nat} (ha : a < N.length) : nAt (exA N k b i s) (a : Int) = if b = a then zei i (N.length + 1) (hgX k N.length a (nAt N a)) else hgX k N.length a (nAt N a) := by
 have h1 : ∀ a : Nat, a < N.length -> nAt (hgN k N.length (N ++ [xL s]) ++ [Zf s k]) (a : Int) = hgX k N.length a (nAt N a) := fun a ha => by
   rw [zbT (by rw [yv]; simp; omega), zmp (by simp; omega), zbT ha]
 unfold exA YA
 rw [Xb (by simp [yv]; omega), h1 a ha, h1 b hb]
 by_cases h : b = a
 · subst h; simp
 · rw [if_neg h, if_neg h]
theorem zpv {N : List NodeD} {k b i : Nat} {s : ByteArray} (hb : b < N.length) : nAt (exA N k b i s) (N.length : Int) = xL s := by
 unfold exA YA
 rw [Xb (by simp [yv]; omega), if_neg (by omega), zbT (by rw [yv]; simp), zmp (by simp), zfW]
 simp [hgX, xL]
theorem zpw {N : List NodeD} {k b i : Nat} {s : ByteArray} (hb : b < N.length) : nAt (exA N k b i s) ((N.length + 1 : Nat) : Int) = Zf s k := by
 unfold exA YA
 rw [Xb (by simp [yv]), if_neg (by omega)]
 have h := zfW (hgN k N.length (N ++ [xL s])) (Zf s k)
 rw [yv, List.length_append, List.length_singleton] at h
 exact h
theorem zov {N : List NodeD} {k b i : Nat} {s : ByteArray} (hk : k < N.length) (hb : b < N.length) (hbk : b ≠ k) {a : Nat} (ha : a < N.length) : nAt (exB N k b i s) (a : Int) = if b = a then zei i (N.length + 1) (nAt N a) else if k = a then xL s else nAt N a := by
 have h1 : ∀ a : Nat, a < N.length -> nAt (((N ++ [nAt N k]) ++ [Zf s N.length]).set k (xL s)) (a : Int) = if k = a then xL s else nAt N a := fun a ha => by
   rw [Xb (by simp; omega), zbT (by simp; omega), zbT ha]
 unfold exB YA
 rw [Xb (by simp; omega), h1 a ha, h1 b hb]
 have hkb : ¬ k = b := fun e => hbk e.symm
 by_cases h : b = a
 · subst h; simp [hkb]
 · rw [if_neg h, if_neg h]
theorem zpt {N : List NodeD} {k b i : Nat} {s : ByteArray} (hk : k < N.length) (hb : b < N.length) : nAt (exB N k b i s) (N.length : Int) = nAt N k := by
 unfold exB YA
 rw [Xb (by simp), if_neg (by omega), Xb (by simp), if_neg (by omega), zbT (by simp), zfW]
theorem zpu {N : List NodeD} {k b i : Nat} {s : ByteArray} (hk : k < N.length) (hb : b < N.length) : nAt (exB N k b i s) ((N.length + 1 : Nat) : Int) = Zf s N.length := by
 unfold exB YA
 rw [Xb (by simp), if_neg (by omega), Xb (by simp), if_neg (by omega)]
 have h := zfW (N ++ [nAt N k]) (Zf s N.length)
 rw [List.length_append, List.length_singleton] at h
 exact h
theorem znZ {p : ProgramD} (hD : Deep p.nodes) {k b i : Nat} (s : ByteArray) (hk : k < p.nodes.length) (hb : b < p.nodes.length) (hbk : b ≠ k) (hbody : ∀ f ∈ p.fns, f.body ≠ (k : Int) /\ f.body < p.nodes.length) (hret : ∀ f ∈ p.fns, f.ret < p.nodes.length) : XE (exPA p k b i s) = XE (exPB p k b i s) := by
 obtain ⟨N, F⟩ := p
 simp only at hD hk hb hbody hret
 let R : Int -> Int -> Prop := fun a c => (a = c /\ a ≠ (k : Int) /\ a ≠ (N.length : Int)) \/ (a = (k : Int) /\ c = (N.length : Int)) \/ (a = (N.length : Int) /\ c = (k : Int))
 have low : ∀ (a : Nat) (ha : a < N.length), ∀ q ∈ (nAt N a).kids, 0 <= q /\ q < a := fun a ha q hq => by
   rw [zH ha] at hq
   have := hD.kid ha q hq
   omega
 have one : ∀ a : Nat, ∀ q : Int, q ≠ (N.length : Int) -> a ≠ N.length -> R (hgK k N.length a q) q := fun a q h1 h2 => by
   unfold hgK
   by_cases hq : q = k
   · subst hq
     have h3 : ((a : Int) == (N.length : Int)) = false := by simp; omega
     rw [h3]
     exact Or.inr (Or.inr ⟨by simp, rfl⟩)
   · have h3 : (q == (k : Int)) = false := by simpa using hq
     rw [h3]
     exact Or.inl ⟨by simp, by simpa using hq, by simpa using h1⟩
 have maps : ∀ (a : Nat) (L : List Int), (∀ q ∈ L, q ≠ (N.length : Int)) -> a ≠ N.length -> ∀ (j : Nat) (x y : Int), (L.map (hgK k N.length a))[j]? = some x -> L[j]? = some y -> R x y := fun a L h1 h2 j x y hx hy => by
   rw [List.getElem?_map, hy, Option.map_some, Option.some.injEq] at hx
   subst hx
   exact one a y (h1 y (List.mem_of_getElem? hy)) h2
 have ins : ∀ (a : Nat) (L : List Int), (L.map (hgK k N.length a)).take i ++ [((N.length : Int) + 1)] ++ (L.map (hgK k N.length a)).drop i = (L.take i ++ [((N.length : Int) + 1)] ++ L.drop i).map (hgK k N.length a) := fun a L => by
   have h3 : hgK k N.length a ((N.length : Int) + 1) = (N.length : Int) + 1 := by
     unfold hgK
     have : (((N.length : Int) + 1) == (k : Int)) = false := by simp; omega
     rw [this]; rfl
   simp [List.map_take, List.map_drop, h3]
 have key : ∀ d a c, R a c -> simN (exA N k b i s) (exB N k b i s) d a c := by
   refine zlJ (R := R) (fun a c hr => ?_)
   rw [zfn, zfm]
   rcases hr with ⟨rfl, h1, h2⟩ | ⟨rfl, rfl⟩ | ⟨rfl, rfl⟩
   · refine ⟨rfl, fun hi => ?_⟩
     have hr := zx hi
     obtain ⟨n, rfl⟩ : ∃ n : Nat, a = n := ⟨a.toNat, by omega⟩
     by_cases hn : n < N.length
     · rw [zow hk hb hn, zov hk hb hbk hn]
       by_cases h : b = n
       · subst h
         rw [if_pos rfl, if_pos rfl]
         refine ⟨rfl, rfl, rfl, by simp [zei, hgX], fun j x y hx hy => ?_⟩
         simp only [zei, hgX] at hx hy
         rw [ins] at hx
         refine maps b _ (fun q hq => ?_) (by omega) j x y hx hy
         simp only [List.mem_append, List.mem_singleton] at hq
         rcases hq with (hq | rfl) | hq
         · have := low b hb q (List.mem_of_mem_take hq); omega
         · omega
         · have := low b hb q (List.mem_of_mem_drop hq); omega
       · rw [if_neg h, if_neg h, if_neg (by omega)]
         refine ⟨rfl, rfl, rfl, by simp [hgX], fun j x y hx hy => ?_⟩
         exact maps n _ (fun q hq => by have := low n hn q hq; omega) (by omega) j x y hx hy
     · have : n = N.length + 1 := by omega
       subst this
       rw [zpw hb, zpu hk hb]
       refine ⟨rfl, rfl, rfl, rfl, fun j x y hx hy => ?_⟩
       simp only [Zf] at hx hy
       match j with
       | 0 =>
         simp only [List.getElem?_cons_zero, Option.some.injEq] at hx hy
         exact Or.inr (Or.inl ⟨hx.symm, hy.symm⟩)
       | j + 1 => simp at hx
   · refine ⟨by simp [inI]; omega, fun hi => ?_⟩
     rw [zow hk hb hk, zpt hk hb, if_neg hbk]
     refine ⟨rfl, rfl, rfl, by simp [hgX], fun j x y hx hy => ?_⟩
     exact maps k _ (fun q hq => by have := low k hk q hq; omega) (by omega) j x y hx hy
   · refine ⟨by simp [inI]; omega, fun hi => ?_⟩
     rw [zpv hb, zov hk hb hbk hk, if_neg hbk, if_pos rfl]
     refine ⟨rfl, rfl, rfl, rfl, fun j x y hx hy => ?_⟩
     simp [xL] at hx
 refine znz (by simp [exPA, exPB]) (fun j f g hf hg => ?_)
 simp only [exPA, exPB] at hf hg |-
 rw [List.getElem?_map, hg, Option.map_some, Option.some.injEq] at hf
 subst hf
 obtain ⟨b1, b2⟩ := hbody g (List.mem_of_getElem? hg)
 have r1 := hret g (List.mem_of_getElem? hg)
 unfold hgR
 by_cases h : g.ret = (k : Int)
 · rw [h, if_pos (by simp)]
   refine ⟨rfl, rfl, rfl, key 10 _ _ (Or.inl ⟨rfl, b1, by simp only; omega⟩), by simp only; omega, fun _ => key 10 _ _ (Or.inr (Or.inr ⟨rfl, rfl⟩)), fun hh => absurd (by simp only; omega) hh⟩
 · rw [if_neg (by simpa using h)]
   exact ⟨rfl, rfl, rfl, key 10 _ _ (Or.inl ⟨rfl, b1, by omega⟩), Iff.rfl, fun _ => key 10 _ _ (Or.inl ⟨rfl, h, by omega⟩), fun _ => rfl⟩
structure WalkH (nodes : List NodeD) (s : Nat) (l : List Nat) (i : Nat) : Prop where
 reach : ∀ x ∈ l, RB nodes s x
 root : ∃ r, l = s :: r /\ ∀ m ∈ r, m < s
 done : ∀ p (hp : p < l.length), p < i -> ∀ (hl : l[p] < nodes.length), ∀ kid ∈ nodes[l[p]].kids, (nAt nodes kid).kind ≠ 20 -> kid.toNat ∈ l
 le : i <= l.length
 few : i + Ws nodes (l.drop i) <= W nodes s
theorem zhk (p : ProgramD) (s : Nat) (hd : dAt p.nodes s ≠ 0) (hn : p.nodes.length <= 1048576) (hk : ∀ x ∈ p.nodes, x.kids.length <= 1048576) : zw Tryz.prog 68 [.ro (zd p), .ro (.sc (.int .i64 s))] (fun rs st => ∃ l : List Nat, ((∀ m, m ∈ s :: l ↔ RB p.nodes s m) /\ (∀ m ∈ l, m < s) /\ l.length <= 137858491849) /\ rs = [(false, [.row false 3 (row1 cI (ints (s :: l)))])]) := by
 refine zm (fn := Tryz.f68) (c := Tryz.f68.body.getD .skip) (res := [.tm 4]) (n := 44) zg (by kernel_rfl) (by rfl) (by kernel_rfl) (by rfl) (by rfl) (by simp [zq]) (fun uf ub C hpin hpin2 hfull => ?_)
 simp only [Tryz.f68, Option.getD_some]
 obtain ⟨hsl, _⟩ := xV hd
 refine Tri.step zg ?_
 simp +decide only [zd, za, hpin, go_sem, reduceAdd, reduceMul]
 refine Tri.ent ?_ (Ent.frb hfull 2)
 refine Tri.step zg ?_
 simp +decide only [zd, za, hpin, go_sem, reduceAdd, reduceMul]
 refine Tri.step zg ?_
 simp +decide only [zd, za, hpin, go_sem, reduceAdd, reduceMul]
 refine Tri.loop (ι := List Nat × Nat) (fun q => WalkH p.nodes s q.1 q.2) (fun q => ⟨44, [(2, .ip (za true p) 0), (5, .ref 5 [] q.1.length), (6, vI q.2)], [(5, .row 3 (row1 cI (ints q.1)))]⟩) (fun q => Ws p.nodes (q.1.drop q.2)) ([s], 0) ⟨fun x hx => by simp at hx; subst hx; exact .refl _, ⟨[], rfl, by simp⟩, fun p hp hp2 => by omega, by simp, by simp [Ws]⟩ ?_ ?_
 · refine Ent.weak ?_ ?_ ?_ ?_ <;> simp +decide [subT, subB, zl, zk, zn, St.get, look, vI, vB, vS, cI, cS, cB, zh, roI, za, ints, row1]
 · rintro ⟨l, i⟩ hW
   simp only at hW |-
   have hle : ∀ x ∈ l, x <= s := fun x hx => (hW.reach x hx).reach.le hd
   have hWs := W_le p.nodes s
   refine zf zg _ ?_
   by_cases h' : i < l.length
   · have e : ((i : Int) < (l.length : Int)) = True := by simp [h']
     have hli := hle l[i] (List.getElem_mem h')
     have hli2 : l[i] < p.nodes.length := by omega
     have hdi := xo p.nodes hli hd
     obtain ⟨_, hkid⟩ := xV hdi
     have hwk := zmZ hdi hli2
     have hc1 : ((l[i] : Int) < (p.nodes.length : Int)) = True := eq_true (by omega)
     have hkx := hk p.nodes[l[i]] (List.getElem_mem hli2)
     have hstep : ∀ kid ∈ p.nodes[l[i]].kids, (nAt p.nodes kid).kind ≠ 20 -> RB p.nodes s kid.toNat := fun kid h1 h2 => .step (hW.reach l[i] (List.getElem_mem h')) hli2 h1 h2
     have hdrop : l.drop i = l[i] :: l.drop (i + 1) := List.drop_eq_getElem_cons h'
     have hsum : Ws p.nodes (l.drop i) = W p.nodes l[i] + Ws p.nodes (l.drop (i + 1)) := by unfold Ws; rw [hdrop, List.map_cons, List.sum_cons]
     have hfew := hW.few
     generalize hx : p.nodes[l[i]] = x at hkid hkx hwk hstep
     simp +decide only [e, vB, vI, hpin, go_sem, reduceAdd, reduceMul]
     refine Tri.sched zg [(0, true), (2, true), (3, true), (4, true), (10, true), (1, true), (5, false), (6, false), (7, false), (8, false), (9, false)] zT (by kernel_rfl) (fun C2 hC2 => ?_)
     have hp2 := zU hC2 hpin
     simp +decide only [e, hc1, h', zB, zbu l h', zj _ _ hli2, hx, zh, za, Int.natCast_nonneg, hp2, go_sem, reduceAdd, reduceMul]
     refine Tri.loop (ι := Nat × List Nat) (fun q => q.1 <= x.kids.length /\ q.2 = l ++ xG p.nodes (x.kids.take q.1)) (fun q => ⟨44, [(2, .ip (za true p) 0), (5, .ref 5 [] q.2.length), (6, vI i), (25, roI x.kids), (26, vI x.kids.length), (27, vI q.1)], [(5, .row 3 (row1 cI (ints q.2)))]⟩) (fun q => x.kids.length - q.1) (0, l) ⟨by simp, by simp [xG]⟩ ?_ ?_
     · refine Ent.weak ?_ ?_ ?_ ?_ <;> simp +decide [subT, subB, zl, zk, zn, St.get, look, vI, vB, vS, cI, cS, cB, zh, roI, za]
     · rintro ⟨j, L⟩ ⟨hj, hL⟩
       simp only at hj hL |-
       refine zf zg _ ?_
       have hnb : (xG p.nodes (x.kids.take j)).length <= x.kids.length := by unfold xG; rw [List.length_map]; exact Nat.le_trans (List.length_filter_le _ _) (by simp; omega)
       have hlen : L.length <= 137858491849 + 1048576 := by
         have h1 := XV p.nodes (l.drop i)
         rw [List.length_drop] at h1
         rw [hL, List.length_append]
         omega
       by_cases hj' : j < x.kids.length
       · have e2 : ((j : Int) < (x.kids.length : Int)) = True := by simp [hj']
         obtain ⟨q0, q1, q2⟩ := hkid x.kids[j] (List.getElem_mem hj')
         have z0 : (0 <= x.kids[j]) = True := eq_true q0
         have z1 : (x.kids[j] < (p.nodes.length : Int)) = True := eq_true (by omega)
         have z2 : x.kids[j].toNat < p.nodes.length := by omega
         have htk := zdF (nodes := p.nodes) hj'
         rw [yI z2] at htk
         have hb1 : L.length + 1 <= 140737488355328 := by omega
         have hb2 : (L.length + 1) * 8 <= 140737488355328 := by omega
         have hsn := zdR L q0
         simp +decide only [e2, z0, z1, zr _ _ hj', zj _ _ z2, zB, zh, za, Int.natCast_nonneg, bne, vB, vI, hpin, go_sem, reduceAdd, reduceMul]
         cases hc : p.nodes[x.kids[j].toNat].kind == 20 with
         | true =>
           rw [hc, if_pos rfl, List.append_nil] at htk
           simp +decide only [hc, hpin, go_sem, reduceAdd, reduceMul]
           refine ⟨(j + 1, L), ⟨hj', by rw [hL, htk]⟩, by simp only; omega, Ent.weak ?_ ?_ ?_ ?_⟩
           all_goals simp +decide [subT, subB, zl, zk, zn, St.get, look, vI, vB, vS, cI, cS, cB, zh, roI, za, w64s (n := x.kids.length) hj' (by omega)]
         | false =>
           rw [hc, if_neg (by decide)] at htk
           simp +decide only [hc, zB, hb1, hb2, hpin, go_sem, reduceAdd, reduceMul]
           refine ⟨(j + 1, L ++ [x.kids[j].toNat]), ⟨hj', by rw [htk, <- List.append_assoc, <- hL]⟩, by simp only; omega, Ent.weak ?_ ?_ ?_ ?_⟩
           all_goals simp +decide [subT, subB, zl, zk, zn, St.get, look, vI, vB, vS, cI, cS, cB, zh, roI, za, w64s (n := x.kids.length) hj' (by omega), <- hsn, row1, ints, Int.max_eq_left q0]
       · have hjl : j = x.kids.length := by omega
         subst hjl
         have e2 : ((x.kids.length : Int) < (x.kids.length : Int)) = False := by simp
         rw [List.take_length] at hL
         simp +decide only [e2, vB, vI, hpin, go_sem, reduceAdd, reduceMul]
         have hd2 : L.drop (i + 1) = l.drop (i + 1) ++ xG p.nodes x.kids := by rw [hL]; exact List.drop_append_of_le_length (by omega)
         have hlL : l.length <= L.length := by rw [hL]; simp
         refine ⟨(L, i + 1), ⟨?_, (by
           obtain ⟨r, hr, hlt⟩ := hW.root
           refine ⟨r ++ xG p.nodes x.kids, by rw [hL, hr]; rfl, fun m hm => ?_⟩
           rcases List.mem_append.1 hm with hm | hm
           · exact hlt m hm
           · obtain ⟨kid, h1, h2, rfl⟩ := ZR.1 hm
             have := (hkid kid h1).2.2
             omega), ?_, ?_, ?_⟩, ?_, Ent.weak ?_ ?_ ?_ ?_⟩
         · intro y hy
           rw [hL] at hy
           rcases List.mem_append.1 hy with hy | hy
           · exact hW.reach y hy
           · obtain ⟨kid, h1, h2, rfl⟩ := ZR.1 hy
             exact hstep kid h1 h2
         · intro q hq hq2 hl kid hkk hkb
           have hql : q < l.length := by omega
           have e5 : L[q] = l[q] := by simp only [hL]; exact List.getElem_append_left hql
           simp only [e5] at hl hkk
           rw [hL]
           by_cases eq : q = i
           · subst eq
             rw [hx] at hkk
             exact List.mem_append_right _ (ZR.2 ⟨kid, hkk, hkb, rfl⟩)
           · exact List.mem_append_left _ (hW.done q hql (by omega) hl kid hkk hkb)
         · simp only; omega
         · simp only [hd2, zbH]; omega
         · simp only [hd2, zbH]; omega
         all_goals simp +decide [subT, subB, zl, zk, zn, St.get, look, vI, vB, vS, cI, cS, cB, zh, roI, za, w64s (n := l.length) h' (by have h1 := XV p.nodes (l.drop i); rw [List.length_drop] at h1; omega)]
   · have hil : i = l.length := by have := hW.le; omega
     subst hil
     have e : ((l.length : Int) < (l.length : Int)) = False := by simp
     have hfew := hW.few
     obtain ⟨r, hr0, hlt⟩ := hW.root
     have hroot : s ∈ l := by rw [hr0]; exact List.mem_cons_self ..
     have hall : (∀ m, m ∈ l ↔ RB p.nodes s m) /\ l.length <= 137858491849 := ⟨fun m => ⟨hW.reach m, fun hm => by
       induction hm with
       | refl => exact hroot
       | @step m kid h hm hk hb ih =>
         obtain ⟨q, hq, rfl⟩ := List.getElem_of_mem ih
         exact hW.done q hq hq hm kid hk hb⟩, by omega⟩
     simp +decide only [e, vB, vI, hpin, go_sem, reduceAdd, reduceMul]
     refine zf zg _ ?_
     simp +decide only [zB, hpin, go_sem, reduceAdd, reduceMul]
     refine ⟨r, ⟨by rw [<- hr0]; exact hall.1, hlt, by have := hall.2; rw [hr0] at this; simp at this; omega⟩, by rw [hr0]⟩
theorem zka {nodes : List NodeD} {k : Nat} {b : Int} : ∀ (l : List Int) (i : Nat) {r : Int × Int × Int}, zaq nodes k b l i = some r -> ∃ j : Nat, ∃ h : j < l.length, r = (b, ((i + j : Nat) : Int), l[j]) /\ RB nodes l[j].toNat k
 | [], _, _, h => by simp [zaq] at h
 | s :: l, i, r, h => by
   unfold zaq at h
   split at h
   · rename_i hr
     cases h
     exact ⟨0, by simp, by simp, by simpa using hr⟩
   · obtain ⟨j, hj, h1, h2⟩ := zka l (i + 1) h
     refine ⟨j + 1, by simp; omega, ?_, by simpa using h2⟩
     rw [h1]
     simp only [List.getElem_cons_succ, Prod.mk.injEq, true_and, and_true]
     omega
theorem zgr {nodes : List NodeD} {k : Nat} : ∀ (l : List Int) {r : Int × Int × Int}, xc nodes k l = some r -> ∃ b ∈ l, (nAt nodes b).kind = 20 /\ ∃ j : Nat, ∃ h : j < (nAt nodes b).kids.length, r = (b, (j : Int), (nAt nodes b).kids[j]) /\ RB nodes (nAt nodes b).kids[j].toNat k
 | [], _, h => by simp [xc] at h
 | b :: l, r, h => by
   unfold xc at h
   split at h
   · rename_i hb
     cases hq : zaq nodes k b (nAt nodes b).kids 0 with
     | none =>
       rw [hq] at h
       simp only [XF] at h
       obtain ⟨b2, h1, h2⟩ := zgr l h
       exact ⟨b2, List.mem_cons_of_mem _ h1, h2⟩
     | some q =>
       rw [hq] at h
       simp only [XF] at h
       cases h
       obtain ⟨j, hj, h1, h2⟩ := zka _ _ hq
       exact ⟨b, List.mem_cons_self .., by simpa using hb, j, hj, by simpa using h1, h2⟩
   · obtain ⟨b2, h1, h2⟩ := zgr l h
     exact ⟨b2, List.mem_cons_of_mem _ h1, h2⟩
structure StepIs (p : ProgramD) (k b i s : Nat) : Prop where
 hk : k < p.nodes.length
 val : xb p.nodes[k].kind = true
 hb : b < p.nodes.length
 blk : p.nodes[b].kind = 20
 hi : i < p.nodes[b].kids.length
 hs : p.nodes[b].kids[i] = s
 hsl : s < p.nodes.length
 rb : RB p.nodes s k
theorem zlE {p : ProgramD} (hD : Deep p.nodes) {fn k : Int} {r : Int × Int × Int} (h : ZJ p fn k = some r) : ∃ kn b i s : Nat, k = kn /\ r = ((b : Int), (i : Int), (s : Int)) /\ StepIs p kn b i s := by
 unfold ZJ at h
 split at h
 case isFalse => cases h
 rename_i hc
 obtain ⟨h1, h2⟩ := Bool.and_eq_true_iff.1 hc
 obtain ⟨h3, h4⟩ := Bool.and_eq_true_iff.1 h2
 have h3 : (zR p.nodes k == 0) = false := by simpa using h3
 obtain ⟨kn, rfl, hkn, _⟩ := xQ h3
 rw [zH hkn] at h4
 obtain ⟨b, hb, g1, j, hj, g2, g3⟩ := zgr _ h
 obtain ⟨b0, b1, b2⟩ := YQ hb
 obtain ⟨bn, rfl⟩ : ∃ bn : Nat, b = bn := ⟨b.toNat, by omega⟩
 have hbl : bn < p.nodes.length := by omega
 simp only [zH hbl] at g1 hj g2 g3
 obtain ⟨q0, q1, q2⟩ := hD.kid hbl _ (List.getElem_mem hj)
 obtain ⟨sn, hsn⟩ : ∃ sn : Nat, p.nodes[bn].kids[j] = sn := ⟨p.nodes[bn].kids[j].toNat, by omega⟩
 rw [hsn] at g2 g3 q1 q2
 exact ⟨kn, bn, j, sn, rfl, g2, hkn, h4, hbl, g1, hj, hsn, by omega, by simpa using g3⟩
theorem zhm {N : List NodeD} (hD : Deep N) {m : Nat} (hm : m < N.length) (st : Bool) : Zj N st m = true ↔ ∀ q, Reach N m q -> yS st (nAt N q).kind = true := by
 have h9 : inI (m : Int) 0 (N.length - 1) = true := by simp [inI]; omega
 have h1 := hD.deep m hm
 have h2 : (zR N (m : Int) == 0) = false := by simp [zR, h9, h1]
 unfold Zj
 rw [h2]
 simp
theorem zeT {p : ProgramD} (hD : Deep p.nodes) {k b i s : Nat} (h : StepIs p k b i s) : ∃ c : Nat, c < s /\ ∃ h0 : 0 < (p.nodes[s]'h.hsl).kids.length, (p.nodes[s]'h.hsl).kids[0] = c /\ RB p.nodes s c /\ ∀ m, RB p.nodes s m -> m = s \/ RB p.nodes c m := by
 have hsl := h.hsl
 have hb := h.hb
 have hk := h.hk
 have hft := xN (hD.deep b hb) hb h.hi
 rw [h.blk, h.hs, zH hsl] at hft
 have hst : Yg p.nodes[s].kind = true := by unfold yG at hft; simpa using hft
 have hsr : 13 <= p.nodes[s].kind /\ p.nodes[s].kind <= 19 := by unfold Yg at hst; exact zx hst
 have hne : s ≠ k := fun e => by
   have hv := h.val
   simp only [<- e] at hv
   unfold xb at hv
   have := zx hv
   omega
 have hsh := zx (xC (hD.deep s hsl) hsl)
 have first : ∀ (t : Nat) (ht : t < p.nodes[s].kids.length), (nAt p.nodes p.nodes[s].kids[t]).kind ≠ 20 -> t = 0 := fun t ht h20 => by
   have hf2 := xN (hD.deep s hsl) hsl ht
   by_cases ht0 : t = 0
   · exact ht0
   · exfalso
     have hk6 : p.nodes[s].kind = 13 \/ p.nodes[s].kind = 14 \/ p.nodes[s].kind = 15 \/ p.nodes[s].kind = 16 \/ p.nodes[s].kind = 17 \/ p.nodes[s].kind = 18 \/ p.nodes[s].kind = 19 := by omega
     rcases hk6 with e | e | e | e | e | e | e
     all_goals rw [e] at hsh hf2
     all_goals try (simp [zI] at hsh; omega)
     all_goals
       unfold yG at hf2
       have h3 : decide (0 < (t : Int)) = true := by simp; omega
       rw [h3] at hf2
       exact h20 (by simpa using hf2)
 obtain hh | ⟨hn, kid, hkid, h20, hr⟩ := h.rb.head
 · exact absurd hh hne
 obtain ⟨t, ht, rfl⟩ := List.getElem_of_mem hkid
 have ht0 := first t ht h20
 subst ht0
 obtain ⟨q0, q1, q2⟩ := hD.kid hsl _ (List.getElem_mem ht)
 refine ⟨p.nodes[s].kids[0].toNat, q2, ht, by omega, .step (.refl _) hsl (List.getElem_mem ht) h20, fun m hm => ?_⟩
 obtain hh | ⟨hn2, kid2, hkid2, h202, hr2⟩ := hm.head
 · exact Or.inl hh.symm
 · obtain ⟨t, ht2, rfl⟩ := List.getElem_of_mem hkid2
   have ht0 := first t ht2 h202
   subst ht0
   exact Or.inr hr2
theorem zku {p : ProgramD} (hD : Deep p.nodes) {k b i s c : Nat} (h : StepIs p k b i s) (hc : c < s) (hrc : RB p.nodes s c) (hall : ∀ m, RB p.nodes s m -> m = s \/ RB p.nodes c m) : (∀ m, RB p.nodes s m -> m < s -> Zj p.nodes false m = true) ↔ Zj p.nodes false c = true := by
 have hsl := h.hsl
 constructor
 · exact fun hh => hh c hrc hc
 · intro hq m hm hlt
   have hcq := (zhm hD (by omega) false).1 hq
   rcases hall m hm with rfl | hr
   · omega
   · exact (zhm hD (by omega) false).2 (fun q hr2 => hcq q (hr.reach.trans hr2))
theorem zfx (p : ProgramD) (l : List VarD) (hn : p.nodes.length <= 1048576) (hk : ∀ x ∈ p.nodes, x.kids.length <= 1048576) (k : Int) (h0 : (zR p.nodes k == 0) = true) :
   zw Tryz.prog 67 [.ro (zd p), .ro (.imm 96 (rows (varC true) l)), .ro (.sc (.int .i64 k))] (fun rs st => rs = [(false, [cI 0])]) := by
 have hde := Xj p.nodes k hn hk
 refine zm (fn := Tryz.f67) (c := Tryz.f67.body.getD .skip) (res := [.tm 6]) (n := 16) zg (by kernel_rfl) (by rfl) (by kernel_rfl) (by rfl) (by rfl) (by simp [zq]) (fun uf ub C hpin hpin2 hfull => ?_)
 simp only [Tryz.f67, Option.getD_some]
 refine Tri.step zg ?_
 simp +decide only [zL, zd, za, hpin, go_sem, reduceAdd, reduceMul]
 refine Tri.ent ?_ (Ent.frb hfull 3)
 refine Tri.step zg ?_
 simp +decide only [zL, zd, za, hpin, go_sem, reduceAdd, reduceMul]
 refine ze hde hpin ?_
 simp +decide only [h0, zL, zd, za, hpin, go_sem, reduceAdd, reduceMul]
def tyAt (p : ProgramD) (l : List VarD) (k : Int) : Int := if zR p.nodes k == 0 then 0 else yj p l k
theorem zfy (p : ProgramD) (hD : Deep p.nodes) (l : List VarD) (hl : l.length <= 4194304) (hf : p.fns.length <= 1048576) (hn : p.nodes.length <= 1048576) (hk : ∀ x ∈ p.nodes, x.kids.length <= 300) (k : Int) :
   zw Tryz.prog 67 [.ro (zd p), .ro (.imm 96 (rows (varC true) l)), .ro (.sc (.int .i64 k))] (fun rs st => rs = [(false, [cI (tyAt p l k)])]) := by
 unfold tyAt
 cases h0 : zR p.nodes k == 0 with
 | true => exact zfx p l hn (fun x hx => by have := hk x hx; omega) k h0
 | false =>
   obtain ⟨n, rfl, hnl, _⟩ := xQ h0
   exact zaZ p hD l hl hf hn hk n hnl
theorem zfu (l : List VarD) : shLL (rows (varC false) l) = rows (varC true) l := by
 rw [yR]
 simp only [rows, List.map_map]
 apply List.map_congr_left
 intro x _
 simp [varC, shL, shD, cI, cS]
noncomputable def zcD (p : ProgramD) (s : Int) : Bool := Zj p.nodes false ((nAt p.nodes s).kids.getD 0 0)
noncomputable def zeL (p : ProgramD) (k : Int) (s : ByteArray) (r : Int × Int × Int) : ProgramD := exPA p k.toNat r.1.toNat r.2.1.toNat s
noncomputable def Zn (p : ProgramD) (fn k : Int) (r : Int × Int × Int) : Bool := tyAt p (yd p fn) k == 1 && !((nAt p.nodes r.2.2).kind == 17)
noncomputable def yl (p : ProgramD) (fn k : Int) (s : ByteArray) : Int := if zZ p && inI fn 0 (p.fns.length - 1) then (if Yr s && decide (yC (yd p fn) s < 0) then (match ZJ p fn k with
 | none => 3
 | some r => if Zn p fn k r then (if zcD p r.2.2 then zaT (zeL p k s r) else 4) else 3) else 2) else 1
noncomputable def exP (p : ProgramD) (fn k : Int) (s : ByteArray) : ProgramD := if zZ p && inI fn 0 (p.fns.length - 1) then (if Yr s && decide (yC (yd p fn) s < 0) then (match ZJ p fn k with
 | none => p
 | some r => if Zn p fn k r then (if zcD p r.2.2 then finP p (zeL p k s r) else p) else p) else p) else p
theorem zmH {p : ProgramD} (hG : Right p) (k b i : Nat) (s : ByteArray) (hpl : ∀ f ∈ p.fns, f.params.length <= 1048576) : (exPA p k b i s).fns.length <= 1048576 /\ (exPA p k b i s).nodes.length <= 1048576 /\ (∀ x ∈ (exPA p k b i s).nodes, x.kids.length <= 1048576) /\ ∀ f ∈ (exPA p k b i s).fns, f.params.length <= 1048576 := by
 have h1 := hG.few
 have h2 := hG.fns
 have h3 := hG.deep.few
 have hx : ∀ x ∈ hgN k p.nodes.length (p.nodes ++ [xL s]) ++ [Zf s k], x.kids.length <= 12 := fun x hx => by
   rcases List.mem_append.1 hx with hx | hx
   · obtain ⟨j, hj, rfl⟩ := List.getElem_of_mem hx
     have hj2 : j < (p.nodes ++ [xL s]).length := by rw [yv] at hj; exact hj
     rw [zgk _ _ _ hj2]
     have hm := List.getElem_mem hj2
     simp only [hgX, List.length_map]
     rcases List.mem_append.1 hm with hm | hm
     · exact h3 _ hm
     · rw [List.mem_singleton] at hm
       rw [hm]; simp [xL]
   · rw [List.mem_singleton] at hx
     subst hx; simp [Zf]
 refine ⟨by simp [exPA]; omega, by simp only [exPA]; rw [zfn]; omega, fun x hxm => ?_, fun f hf => ?_⟩
 · simp only [exPA, exA, YA] at hxm
   rcases List.mem_or_eq_of_mem_set hxm with hm | rfl
   · have := hx x hm; omega
   · have hy : (nAt (hgN k p.nodes.length (p.nodes ++ [xL s]) ++ [Zf s k]) (b : Int)).kids.length <= 12 := by
       unfold nAt
       rw [List.getD_eq_getElem?_getD]
       cases hq : (hgN k p.nodes.length (p.nodes ++ [xL s]) ++ [Zf s k])[(b : Int).toNat]? with
       | none => simp [nd0]
       | some y => exact hx y (List.mem_of_getElem? hq)
     simp only [zei, List.length_append, List.length_take, List.length_drop, List.length_singleton]
     omega
 · simp only [exPA, List.mem_map] at hf
   obtain ⟨g, hg, rfl⟩ := hf
   have := hpl g hg
   unfold hgR
   split <;> exact this
theorem zbZ (p : ProgramD) (fn k : Int) (s : ByteArray) (hf : p.fns.length <= 1048576) (hn : p.nodes.length <= 1048576) (hk : ∀ x ∈ p.nodes, x.kids.length <= 1048576) (hpl : ∀ f ∈ p.fns, f.params.length <= 1048576) :
   zw Tryz.prog 24 [.ro (zd p), .ro (.sc (.int .i64 fn)), .ro (.sc (.int .i64 k)), .ro (.sc (.string s))] (fun rs st => rs = [(true, za false (exP p fn k s)), (false, [cI (yl p fn k s)])]) := by
 have w1 : IntKind.i64.wrap ((p.fns.length : Int) - 1) = (p.fns.length : Int) - 1 := w64 (by omega) (by omega)
 have htr := YE p hf hn hk hpl
 have hcp := YO p hf hn hk hpl
 have hnm := xw s
 have hso := ziw p fn k hf hn hk
 simp only [zd, za] at htr hcp hso
 refine zm (fn := Tryz.f24) (c := Tryz.f24.body.getD .skip) (res := [.ce 8 36, .tm 9]) (n := 125) zg (by kernel_rfl) (by rfl) (by kernel_rfl) (by rfl) (by rfl) (by simp [zq]) (fun uf ub C hpin hpin2 hfull => ?_)
 simp only [Tryz.f24, Option.getD_some]
 refine Tri.step zg ?_
 simp +decide only [zL, zd, za, hpin, go_sem, reduceAdd, reduceMul]
 refine Tri.ent ?_ (Ent.frb hfull 4)
 refine Tri.step zg ?_
 simp +decide only [zL, zd, za, hpin, go_sem, reduceAdd, reduceMul]
 refine ze htr hpin ?_
 cases hR : zZ p with
 | false =>
   have e1 : exP p fn k s = p := by unfold exP; rw [hR]; rfl
   have e2 : yl p fn k s = 1 := by unfold yl; rw [hR]; rfl
   simp +decide only [zL, zd, za, hpin, go_sem, reduceAdd, reduceMul]
   refine ze hcp hpin ?_
   simp +decide only [e1, e2, zL, zd, za, hpin, go_sem, reduceAdd, reduceMul]
 | true =>
 simp +decide only [w1, zL, zd, za, hpin, go_sem, reduceAdd, reduceMul]
 refine ze (in' fn 0 (p.fns.length - 1)) hpin ?_
 cases h0 : inI fn 0 (p.fns.length - 1) with
 | false =>
   have e1 : exP p fn k s = p := by unfold exP; rw [hR, h0]; rfl
   have e2 : yl p fn k s = 1 := by unfold yl; rw [hR, h0]; rfl
   simp +decide only [zL, zd, za, hpin, go_sem, reduceAdd, reduceMul]
   refine ze hcp hpin ?_
   simp +decide only [e1, e2, zL, zd, za, hpin, go_sem, reduceAdd, reduceMul]
 | true =>
 have hr := zx h0
 have hG := yA (zbf hR).1
 have hD := hG.deep
 have hk3 : ∀ x ∈ p.nodes, x.kids.length <= 300 := fun x hx => by have := hD.few x hx; omega
 have hvl := ZH p fn hpl hn
 have hts := zas p hD fn hf hn hk3 hpl
 have hva := Xu (yd p fn) s (by omega)
 have hty := zfy p hD (yd p fn) (by omega) hf hn hk3 k
 simp only [zd, za, cI] at hts hva hty
 simp +decide only [zL, zd, za, hpin, go_sem, reduceAdd, reduceMul]
 refine Tri.step zg ?_
 simp +decide only [zL, zd, za, hpin, go_sem, reduceAdd, reduceMul]
 refine ze hts hpin ?_
 simp +decide only [zL, zd, za, hpin, go_sem, reduceAdd, reduceMul]
 refine Tri.ent ?_ (Ent.frz hfull 10)
 refine Tri.step zg ?_
 simp +decide only [zfu, zL, zd, za, hpin, go_sem, reduceAdd, reduceMul]
 refine ze hnm hpin ?_
 cases hN : Yr s with
 | false =>
   have e1 : exP p fn k s = p := by unfold exP; rw [hR, h0, hN]; rfl
   have e2 : yl p fn k s = 2 := by unfold yl; rw [hR, h0, hN]; rfl
   simp +decide only [zL, zd, za, hpin, go_sem, reduceAdd, reduceMul]
   refine ze hcp hpin ?_
   simp +decide only [e1, e2, zL, zd, za, hpin, go_sem, reduceAdd, reduceMul]
 | true =>
 simp +decide only [zL, zd, za, hpin, go_sem, reduceAdd, reduceMul]
 refine ze hva hpin ?_
 by_cases hV : yC (yd p fn) s < 0
 case neg =>
   have hV2 : decide (yC (yd p fn) s < 0) = false := by simpa using hV
   have hV3 : (0 <= yC (yd p fn) s) = True := eq_true (by omega)
   have e1 : exP p fn k s = p := by unfold exP; rw [hR, h0, hN, hV2]; rfl
   have e2 : yl p fn k s = 2 := by unfold yl; rw [hR, h0, hN, hV2]; rfl
   simp +decide only [hV3, ge_iff_le, zL, zd, za, hpin, go_sem, reduceAdd, reduceMul]
   refine ze hcp hpin ?_
   simp +decide only [e1, e2, zL, zd, za, hpin, go_sem, reduceAdd, reduceMul]
 have hV2 : decide (yC (yd p fn) s < 0) = true := by simpa using hV
 have hV3 : (0 <= yC (yd p fn) s) = False := eq_false (by omega)
 simp +decide only [hV3, ge_iff_le, zL, zd, za, hpin, go_sem, reduceAdd, reduceMul]
 refine Tri.step zg ?_
 simp +decide only [zL, zd, za, hpin, go_sem, reduceAdd, reduceMul]
 refine ze hso hpin ?_
 cases hS : ZJ p fn k with
 | none =>
   have e1 : exP p fn k s = p := by unfold exP; rw [hR, h0, hN, hV2, hS]; rfl
   have e2 : yl p fn k s = 3 := by unfold yl; rw [hR, h0, hN, hV2, hS]; rfl
   simp +decide only [rs3, out3, zL, zd, za, hpin, go_sem, reduceAdd, reduceMul]
   refine Tri.step zg ?_
   simp +decide only [zL, zd, za, hpin, go_sem, reduceAdd, reduceMul]
   refine ze hty hpin ?_
   have hz : ((0 : Nat) : Int) = 0 := rfl
   cases hT : tyAt p (yd p fn) k == 1 with
   | false =>
     rcases Ys p.nodes (-1 : Int).toNat with ⟨x, hxk⟩ | hxk
     all_goals
       simp +decide only [hT, hxk, bne, zh, zL, zd, za, hpin, go_sem, reduceAdd, reduceMul]
       refine ze hcp hpin ?_
       simp +decide only [e1, e2, zL, zd, za, hpin, go_sem, reduceAdd, reduceMul]
   | true =>
     rcases Ys p.nodes (-1 : Int).toNat with ⟨x, hxk⟩ | hxk
     all_goals
       simp +decide only [hT, hxk, bne, zh, zL, zd, za, hpin, go_sem, reduceAdd, reduceMul]
       refine ze hcp hpin ?_
       simp +decide only [e1, e2, zL, zd, za, hpin, go_sem, reduceAdd, reduceMul]
 | some r =>
 obtain ⟨kn, b, i, t, rfl, rfl, hI⟩ := zlE hD hS
 have htl := hI.hsl
 have z0 : (0 <= (t : Int)) = True := eq_true (by omega)
 have zt : ((t : Int) < 0) = False := eq_false (by omega)
 have z1 : ((t : Int) < (p.nodes.length : Int)) = True := eq_true (by omega)
 have hxt : (rows (zh true) p.nodes).getD t [] = zh true p.nodes[t] := zj _ _ htl
 simp +decide only [rs3, out3, zL, zd, za, hpin, go_sem, reduceAdd, reduceMul]
 refine Tri.step zg ?_
 simp +decide only [zL, zd, za, hpin, go_sem, reduceAdd, reduceMul]
 refine ze hty hpin ?_
 cases hT : tyAt p (yd p fn) kn == 1 with
 | false =>
   have hP : Zn p fn kn ((b : Int), (i : Int), (t : Int)) = false := by unfold Zn; rw [hT]; rfl
   have e1 : exP p fn kn s = p := by unfold exP; rw [hR, h0, hN, hV2, hS]; simp only [Bool.and_self, if_true, hP]; rfl
   have e2 : yl p fn kn s = 3 := by unfold yl; rw [hR, h0, hN, hV2, hS]; simp only [Bool.and_self, if_true, hP]; rfl
   simp +decide only [hT, zt, z0, z1, htl, hxt, bne, zh, zL, zd, za, hpin, go_sem, reduceAdd, reduceMul]
   refine ze hcp hpin ?_
   simp +decide only [e1, e2, zL, zd, za, hpin, go_sem, reduceAdd, reduceMul]
 | true =>
 cases hW : p.nodes[t].kind == 17 with
 | true =>
   have hP : Zn p fn kn ((b : Int), (i : Int), (t : Int)) = false := by unfold Zn; simp only; rw [hT, zH htl, hW]; rfl
   have e1 : exP p fn kn s = p := by unfold exP; rw [hR, h0, hN, hV2, hS]; simp only [Bool.and_self, if_true, hP]; rfl
   have e2 : yl p fn kn s = 3 := by unfold yl; rw [hR, h0, hN, hV2, hS]; simp only [Bool.and_self, if_true, hP]; rfl
   simp +decide only [hT, hW, zt, z0, z1, htl, hxt, bne, zh, zL, zd, za, hpin, go_sem, reduceAdd, reduceMul]
   refine ze hcp hpin ?_
   simp +decide only [e1, e2, zL, zd, za, hpin, go_sem, reduceAdd, reduceMul]
 | false =>
 have hP : Zn p fn kn ((b : Int), (i : Int), (t : Int)) = true := by unfold Zn; simp only; rw [hT, zH htl, hW]; rfl
 simp +decide only [hT, hW, zt, z0, z1, htl, hxt, bne, zh, zL, zd, za, hpin, go_sem, reduceAdd, reduceMul]
 obtain ⟨c, hct, hc0, hcc, hrc, hcall⟩ := zeT hD hI
 have hwy : zcD p (t : Int) = Zj p.nodes false c := by
   unfold zcD
   rw [zH htl, List.getD_eq_getElem?_getD, List.getElem?_eq_getElem hc0, Option.getD_some, hcc]
 have hqe := zku hD hI hct hrc hcall
 have hre := zhk p t (hD.deep t htl) hn hk
 have hqu := fun k => zho p k hn hk
 simp only [zd, za, cB] at hre hqu
 have hno : zcD p (t : Int) = false -> exP p fn kn s = p /\ yl p fn kn s = 4 := fun hw => by
   refine ⟨?_, ?_⟩
   · unfold exP; rw [hR, h0, hN, hV2, hS]; simp only [Bool.and_self, if_true, hP, hw]; rfl
   · unfold yl; rw [hR, h0, hN, hV2, hS]; simp only [Bool.and_self, if_true, hP, hw]; rfl
 have hyes : zcD p (t : Int) = true -> exP p fn kn s = finP p (zeL p kn s ((b : Int), (i : Int), (t : Int))) /\ yl p fn kn s = zaT (zeL p kn s ((b : Int), (i : Int), (t : Int))) := fun hw => by
   refine ⟨?_, ?_⟩
   · unfold exP; rw [hR, h0, hN, hV2, hS]; simp only [Bool.and_self, if_true, hP, hw]
   · unfold yl; rw [hR, h0, hN, hV2, hS]; simp only [Bool.and_self, if_true, hP, hw]
 have hout : zeL p kn s ((b : Int), (i : Int), (t : Int)) = exPA p kn b i s := by simp only [zeL, Int.toNat_natCast]
 rw [hout] at hyes
 clear hout hP hty hva hts hso hnm htr
 refine Tri.seq (Tri.seq (Tri.cut zg 3 ?_))
 simp +decide only [List.take_succ_cons, List.take_zero, zL, zd, za, hpin, go_sem, reduceAdd, reduceMul]
 refine zcR hre hpin ?_ (fun l hl => ?_)
 · simp +decide only [zL, zd, za, hpin, go_sem, reduceAdd, reduceMul]
 obtain ⟨hl1, hl2, hl3⟩ := hl
 refine ⟨by simp [zbR, Zp, noSh, xz], ?_⟩
 simp +decide only [zB, XK, zL, zd, za, hpin, go_sem, reduceAdd, reduceMul]
 refine zpC ?_ (Ent.frz hfull 3077)
 have hsh : shLL (row1 cI (ints (t :: l))) = row1 cI (ints (t :: l)) := xy _
 have hlen : (ints (t :: l)).length = l.length + 1 := by rw [zB]; rfl
 have c1 : ((1 : Int) <= ((l.length + 1 : Nat) : Int)) = True := eq_true (by omega)
 have hdr : List.drop 1 (row1 cI (ints (t :: l))) = row1 cI (ints l) := rfl
 have hlen2 : (t :: l).length = l.length + 1 := rfl
 have htk : List.take (l.length + 1) (row1 cI (ints (t :: l))) = row1 cI (ints (t :: l)) := XK (t :: l)
 simp +decide only [List.drop_succ_cons, List.drop_zero, htk, hsh, hlen2, c1, hdr, zB, Int.le_refl, zL, zd, za, hpin, go_sem, reduceAdd, reduceMul]
 refine Tri.ent (st' := ⟨125, [(2, vI kn), (3, vS s), (4, .ip (za true p) 0), (8, .bp 8 0), (11, vI b), (12, vI i), (78, roI (ints l)), (79, vI l.length), (80, vI (0 : Nat))], [(8, .box [.sc (.slice none 0 0), .sc (.slice none 0 0)])]⟩) ?_ (Ent.weak ?_ ?_ ?_ ?_)
 rotate_left
 · simp +decide [ye, xU, subT, subB, zl, zk, zn, St.get, look, vI, vB, vS, cI, cS, cB, zh, fnC, zy, za, roI, hdr, hlen2, zP, zB]
 · simp +decide [ye, xU, subT, subB, zl, zk, zn, St.get, look, vI, vB, vS, cI, cS, cB, zh, fnC, zy, za, roI, hdr, hlen2, zP, zB]
 · simp +decide [ye, xU, subT, subB, zl, zk, zn, St.get, look, vI, vB, vS, cI, cS, cB, zh, fnC, zy, za, roI, hdr, hlen2, zP, zB]
 · simp +decide [ye, xU, subT, subB, zl, zk, zn, St.get, look, vI, vB, vS, cI, cS, cB, zh, fnC, zy, za, roI, hdr, hlen2, zP, zB]
 have hlq : ∀ m ∈ l, m < t /\ RB p.nodes t m := fun m hm => ⟨hl2 m hm, (hl1 m).1 (List.mem_cons_of_mem _ hm)⟩
 refine Tri.blk ?_
 refine Tri.loop (ι := Nat) (fun j => j <= l.length /\ (l.take j).all (fun (m : Nat) => Zj p.nodes false (m : Int)) = true) (fun j => ⟨125, [(2, vI kn), (3, vS s), (4, .ip (za true p) 0), (8, .bp 8 0), (11, vI b), (12, vI i), (78, roI (ints l)), (79, vI l.length), (80, vI j)], [(8, .box [.sc (.slice none 0 0), .sc (.slice none 0 0)])]⟩) (fun j => l.length - j) 0 (by simp) ?_ ?_
 · refine Ent.weak ?_ ?_ ?_ ?_ <;> simp +decide [ye, xU, subT, subB, zl, zk, zn, St.get, look, vI, vB, vS, cI, cS, cB, zh, fnC, zy, za, roI]
 rintro j ⟨hj, hal⟩
 refine zf zg _ ?_
 by_cases h' : j < l.length
 · have e : ((j : Int) < (l.length : Int)) = True := by simp [h']
   have hq := hqu (l[j] : Int)
   have hgx : (row1 cI (ints l)).getD j [] = [cI (l[j] : Int)] := by rw [List.getD_eq_getElem?_getD, zbu l h']; rfl
   simp only [cI] at hgx
   simp +decide only [e, h', hgx, zB, Int.natCast_nonneg, vB, vI, vS, zL, zd, za, hpin, go_sem, reduceAdd, reduceMul]
   refine ze hq hpin ?_
   cases h1 : Zj p.nodes false (l[j] : Int) with
   | false =>
     have hw : zcD p (t : Int) = false := by
       rw [hwy]
       cases hqc : Zj p.nodes false (c : Int) with
       | false => rfl
       | true =>
         have := hqe.2 hqc l[j] (hlq _ (List.getElem_mem h')).2 (hlq _ (List.getElem_mem h')).1
         rw [h1] at this; cases this
     obtain ⟨e1, e2⟩ := hno hw
     simp +decide only [zL, zd, za, hpin, go_sem, reduceAdd, reduceMul]
     refine ze hcp hpin ?_
     simp +decide only [e1, e2, zL, zd, za, hpin, go_sem, reduceAdd, reduceMul]
   | true =>
     simp +decide only [vB, vI, vS, zL, zd, za, hpin, go_sem, reduceAdd, reduceMul]
     refine ⟨j + 1, ⟨h', zgA h' hal h1⟩, by omega, Ent.weak ?_ ?_ ?_ ?_⟩
     all_goals simp +decide [ye, xU, subT, subB, zl, zk, zn, St.get, look, vI, vB, vS, cI, cS, cB, zh, fnC, zy, za, roI, w64s (n := l.length) h' (by omega)]
 have hjl : j = l.length := by omega
 subst hjl
 have e : ((l.length : Int) < (l.length : Int)) = False := by simp
 rw [List.take_length] at hal
 have hw : zcD p (t : Int) = true := by
   rw [hwy]
   refine hqe.1 (fun m hm hlt => ?_)
   have hml : m ∈ l := by
     rcases List.mem_cons.1 ((hl1 m).2 hm) with rfl | h
     · omega
     · exact h
   exact List.all_eq_true.1 hal m hml
 obtain ⟨e1, e2⟩ := hyes hw
 rw [e1, e2]
 simp +decide only [e, vB, vI, vS, zL, zd, za, hpin, go_sem, reduceAdd, reduceMul]
 clear e hyes hno hqe hwy hlq hal hl1 hl2 hl3 hsh hdr c1 hlen hre hqu
 have hbl := hI.hb
 have hil := hI.hi
 have hkl := hI.hk
 have hfew := hG.few
 obtain ⟨m1, m2, m3, m4⟩ := zmH hG kn b i s hpl
 have hfin := zeK p (exPA p kn b i s) hf hn hk hpl m1 m2 m3 m4
 have hA0 := zjt p.nodes p.fns 2 0 s (by omega)
 have hk2 : ∀ x ∈ p.nodes ++ [xL s], x.kids.length <= 1048576 := fun x hx => by
   rcases List.mem_append.1 hx with hx | hx
   · exact hk x hx
   · rw [List.mem_singleton] at hx; rw [hx]; simp [xL]
 have hHg := ziZ ⟨p.nodes ++ [xL s], p.fns⟩ kn p.nodes.length hf (by simp; omega) hk2
 have hA1 := zln (hgN kn p.nodes.length (p.nodes ++ [xL s])) (p.fns.map (hgR kn p.nodes.length)) (Zf s kn) (by rw [yv]; simp; omega)
 have hgl : (hgN (kn : Int) p.nodes.length (p.nodes ++ [xL s])).length = p.nodes.length + 1 := by rw [yv]; simp
 rw [hgl] at hA1
 have hxa : exPA p kn b i s = ⟨YA (hgN kn p.nodes.length (p.nodes ++ [xL s]) ++ [Zf s kn]) b i (p.nodes.length + 1), p.fns.map (hgR kn p.nodes.length)⟩ := rfl
 have hTl : b < (hgN (kn : Int) p.nodes.length (p.nodes ++ [xL s]) ++ [Zf s kn]).length := by simp [yv]; omega
 have hTk : i <= ((hgN (kn : Int) p.nodes.length (p.nodes ++ [xL s]) ++ [Zf s kn])[b]).kids.length /\ ((hgN (kn : Int) p.nodes.length (p.nodes ++ [xL s]) ++ [Zf s kn])[b]).kids.length <= 12 := by
   rw [List.getElem_append_left (by rw [yv]; simp; omega), zgk _ _ _ (by simp; omega), List.getElem_append_left hbl]
   have := hD.few p.nodes[b] (List.getElem_mem hbl)
   simp only [hgX, List.length_map]
   omega
 simp only [hgP] at hHg
 generalize hgN (kn : Int) p.nodes.length (p.nodes ++ [xL s]) = T0 at hHg hA1 hxa hTl hTk hgl
 have hT1 : (T0 ++ [Zf s kn]).length = p.nodes.length + 2 := by simp [hgl]
 generalize T0 ++ [Zf s kn] = T1 at hA1 hxa hTl hTk hT1
 have hcut := zjo T1[b].kids [((p.nodes.length + 1 : Nat) : Int)] i i hTk.1 hTk.1 (by omega) (by simp)
 have hr1 : row1 cI [((p.nodes.length + 1 : Nat) : Int)] = [[.sc (.int .i64 ((p.nodes.length + 1 : Nat) : Int))]] := rfl
 simp only [roI] at hcut
 rw [hr1] at hcut
 have hst := zdC hTl (T1[b].kids.take i ++ [((p.nodes.length + 1 : Nat) : Int)] ++ T1[b].kids.drop i)
 have hexi : YA T1 b i (p.nodes.length + 1) = T1.set b ⟨T1[b].kind, T1[b].num, T1[b].name, T1[b].kids.take i ++ [((p.nodes.length + 1 : Nat) : Int)] ++ T1[b].kids.drop i⟩ := by
   unfold YA
   rw [zH hTl]
   rfl
 rw [<- hexi] at hst
 rw [hxa] at hfin |-
 generalize YA T1 b i (p.nodes.length + 1) = T2 at hst hfin |-
 generalize p.fns.map (hgR kn p.nodes.length) = F1 at hHg hA1 hfin |-
 have hq := zaE (zh false) T1 hTl
 have cb : ((b : Int) < (T1.length : Int)) = True := eq_true (by omega)
 generalize T1[b] = y at hq hcut hst
 simp only [zh, cI, cS] at hq
 simp only [zd, za, roI, cI, Zf, xL] at hA0 hHg hA1 hfin hcut
 simp only [row1, List.map_cons, List.map_nil, List.length_cons, List.length_nil, Nat.zero_add] at hA1
 refine Tri.step zg ?_
 simp +decide only [zL, zd, za, hpin, go_sem, reduceAdd, reduceMul]
 refine ze hcp hpin ?_
 simp +decide only [zL, zd, za, hpin, go_sem, reduceAdd, reduceMul]
 refine Tri.step zg ?_
 simp +decide only [zL, zd, za, hpin, go_sem, reduceAdd, reduceMul]
 refine yE hA0 hpin hfull [(2000, 16)] [] [(2000, 16)] ⟨rfl, rfl, rfl, rfl⟩ (fun uf => ?_) ?_
 · simp +decide only [zL, zd, za, hpin, go_sem, reduceAdd, reduceMul]
 simp +decide only [zL, zd, za, hpin, go_sem, reduceAdd, reduceMul]
 refine Tri.step zg ?_
 simp +decide only [zL, zd, za, hpin, go_sem, reduceAdd, reduceMul]
 refine yE hHg hpin hfull [(2000, 16)] [] [(2000, 16)] ⟨rfl, rfl, rfl, rfl⟩ (fun uf => ?_) ?_
 · simp +decide only [zL, zd, za, hpin, go_sem, reduceAdd, reduceMul]
 simp +decide only [zL, zd, za, hpin, go_sem, reduceAdd, reduceMul]
 refine Tri.step zg ?_
 simp +decide only [zL, zd, za, hpin, go_sem, reduceAdd, reduceMul]
 refine zmX hA1 hpin hfull [(2001, 3101), (2000, 16)] [(2000, 16)] [(2001, 3101)] [(2000, 16)] ⟨rfl, rfl, rfl, rfl, rfl⟩ (by rfl) (fun uf => ?_) ?_
 · simp +decide only [zL, zd, za, hpin, go_sem, reduceAdd, reduceMul]
 simp +decide only [zL, zd, za, hpin, go_sem, reduceAdd, reduceMul]
 refine Tri.stop zg ⟨125, [(4, .ip (za true p) 0), (8, .bp 8 0), (16, .bp 16 0)], [(16, .box [.row false 83 (rows (zh false) T2), .row false 104 (rows (fnC false) F1)]), (8, .box [.sc (.slice none 0 0), .sc (.slice none 0 0)])]⟩ ?_ ?_
 · refine Tri.fork zg (.one 0 true (.one 2 true (.one 3 true (.one 5 true (.one 9 true (.one 10 true (.one 11 true (.three 1 (.two 4 (.one 6 true (.one 7 true (.two 8 (.one 12 false (.one 13 false (.one 14 false (.one 15 false (.one 16 false .done))))) 12 (.one 8 false (.one 13 false (.one 14 false (.one 15 false (.one 16 false .done)))))))) 12 (.one 4 false (.one 6 false (.one 7 false (.one 8 false (.one 13 false (.one 14 false (.one 15 false (.one 16 false .done))))))))) 4 (.one 6 true (.one 7 true (.three 1 (.two 8 (.one 12 false (.one 13 false (.one 14 false (.one 15 false (.one 16 false .done))))) 12 (.one 8 false (.one 13 false (.one 14 false (.one 15 false (.one 16 false .done)))))) 8 (.two 1 (.one 12 false (.one 13 false (.one 14 false (.one 15 false (.one 16 false .done))))) 12 (.two 1 (.one 13 false (.one 14 false (.one 15 false (.one 16 false .done)))) 13 (.one 1 false (.one 14 false (.one 15 false (.one 16 false .done)))))) 12 (.two 1 (.one 8 false (.one 13 false (.one 14 false (.one 15 false (.one 16 false .done))))) 8 (.two 1 (.one 13 false (.one 14 false (.one 15 false (.one 16 false .done)))) 13 (.one 1 false (.one 14 false (.one 15 false (.one 16 false .done))))))))) 12 (.two 1 (.one 4 false (.one 6 false (.one 7 false (.one 8 false (.one 13 false (.one 14 false (.one 15 false (.one 16 false .done)))))))) 4 (.one 6 true (.one 7 true (.two 1 (.one 8 false (.one 13 false (.one 14 false (.one 15 false (.one 16 false .done))))) 8 (.two 1 (.one 13 false (.one 14 false (.one 15 false (.one 16 false .done)))) 13 (.one 1 false (.one 14 false (.one 15 false (.one 16 false .done))))))))))))))))) zT (by kernel_rfl) (fun C2 hC2 => ?_)
   have hp2 := zU hC2 hpin
   simp +decide only [hq, cb, hTl, Int.natCast_nonneg, zL, zd, za, hp2, hpin, go_sem, reduceAdd, reduceMul]
   have hst2 := hst
   unfold zN at hst2
   have hsy : shLL (row1 cI y.kids) = row1 cI y.kids := xy _
   have hty : List.take y.kids.length (row1 cI y.kids) = row1 cI y.kids := yK cI y.kids
   repeat' (apply And.intro)
   all_goals
     refine ze hcut hp2 ?_
     simp +decide only [hsy, hty, hst, hst2, hq, cb, hTl, Int.natCast_nonneg, shLL, zL, zd, za, hp2, hpin, go_sem, reduceAdd, reduceMul]
     refine ⟨rfl, Ent.weak ?_ ?_ ?_ ?_⟩
   all_goals simp +decide [ye, xU, subT, subB, zl, zk, zn, St.get, look, vI, vB, vS, cI, cS, cB, zh, fnC, zy, za, roI, hst, hst2]
 refine Tri.ent ?_ (Ent.frb hfull 16)
 refine Tri.step zg ?_
 simp +decide only [zhD, zmD, zL, zd, za, hpin, go_sem, reduceAdd, reduceMul]
 refine ze hfin hpin ?_
 simp +decide only [zL, zd, za, hpin, go_sem, reduceAdd, reduceMul]
 refine zf zg _ ?_
 simp +decide only [zL, zd, za, hpin, go_sem, reduceAdd, reduceMul]
def St.nilS (o : Nat) (p : List (Nat × Nat)) (e : TypeId) (st : St) : St := match look st.ob o with
 | some x => (match subO x p with
   | some (.sc (.slice none 0 0)) => st.swap o (setO x p (.row false e []))
   | _ => st)
 | none => st
section
variable {P : Program} {w w1 : World} {C : Cx} {X : Nat -> Prop} {gh gh1 : Gh} {st : St} {a : Act} {v : Value} {u : Value} {ob : List (Nat × Ob)} {S : Nat -> Prop} {K : St -> Prop}
theorem St.nilS_eq {o : Nat} {p : List (Nat × Nat)} {e : TypeId} {x : Ob} (ho : look st.ob o = some x) (hs : subO x p = some (.sc (.slice none 0 0))) : St.nilS o p e st = st.swap o (setO x p (.row false e [])) := by
 unfold St.nilS
 rw [ho]
 simp only
 rw [hs]
 rfl
theorem St.back_eq {o k : Nat} {p : List (Nat × Nat)} {e : TypeId} {es : List (List D)} {x : Ob} (hk : look st.ob k = some (.row e es)) (ho : look st.ob o = some x) (hs : subO x p = some (.sc v)) : St.back k o p v st = (st.kill k).swap o (setO x p (.row false e es)) := by
 unfold St.back
 rw [hk]
 simp only
 rw [ho]
 simp only
 rw [hs]
 simp
theorem Ent.nilS (o : Nat) (p : List (Nat × Nat)) (e : TypeId) (hp : p ≠ []) : Ent P C st (St.nilS o p e st) := fun a w gh hR => by
 unfold St.nilS
 split
 case h_2 => exact ⟨gh, hR⟩
 rename_i x ho
 split
 case h_2 => exact ⟨gh, hR⟩
 rename_i hs
 obtain ⟨v', F', hn, how, hsub, hbb, hback⟩ := (hR.obs o x ho).part hs hp
 have h2 := hback (.row false e []) F' how.nilr (fun j g1 g2 => g1)
 exact ⟨_, hR.swap (X' := No) ho (zbn hp _) (Nat.le_refl _) (fun _ _ _ _ _ _ => rfl) (fun _ _ => rfl) (World.keptBut_refl w _) h2 (fun j hj => hj.elim (fun h => Or.inl h.1) (fun h => Or.inl (hsub j h))) (fun _ hk => hk.elim) (fun _ _ _ hk => hk.elim)⟩
end
attribute [go_sem] St.nilS
theorem zpr {p : ProgramD} (hG : Right p) {k b i t : Nat} (h : StepIs p k b i t) (s : ByteArray) : Yp (exPA p k b i s) = Yp (exPB p k b i s) /\ zby (exPA p k b i s) = zby (exPB p k b i s) := by
 have hk := h.hk
 have hb := h.hb
 have hv := h.val
 have h20 := h.blk
 have hbk : b ≠ k := fun e => by
   subst e
   rw [h20] at hv
   revert hv; decide
 have e := znZ hG.deep (i := i) s hk hb hbk (fun f hf => by
   obtain ⟨j, hj, rfl⟩ := List.getElem_of_mem hf
   have hok := hG.fn j hj
   have hr := (Zb hok).1
   simp only [Xh, Bool.and_eq_true, zaQ] at hok
   have hkd : (nAt p.nodes p.fns[j].body).kind = 20 := by simpa using hok.2.2.2.2.1.2
   refine ⟨fun e => ?_, by omega⟩
   rw [e, zH hk] at hkd
   rw [hkd] at hv
   revert hv; decide) (fun f hf => by
   obtain ⟨j, hj, rfl⟩ := List.getElem_of_mem hf
   have hr := (Zb (hG.fn j hj)).2
   omega)
 have e1 : zao (exPA p k b i s) = zao (exPB p k b i s) := by unfold zao; rw [e]
 have e2 : Yp (exPA p k b i s) = Yp (exPB p k b i s) := by unfold Yp; rw [e1, e]
 exact ⟨e2, by unfold zby; rw [e1, e2]⟩
theorem zlS (H : Nat -> Option Value) {T : List NodeD} {n : Nat} (h : n < T.length) (hn : H n = none) (v : Value) (hk : T[n].kids = []) (G : D) : setO (.box [.row false 83 (yi (upH H n v) T), G]) [(0, 0), (n, 3)] (.row false 3 []) = .box [.row false 83 (yi H T), G] := by
 have e := zeV H h hn v
 rw [hk] at e
 have e0 : row1 cI ([] : List Int) = [] := rfl
 rw [e0] at e
 simp only [setO, List.getD, List.getElem?_cons_zero, Option.getD_some, List.set_cons_zero, setD, e]
theorem zno (H : Nat -> Option Value) {T : List NodeD} {n : Nat} (h : n < T.length) (hn : H n = none) (v : Value) (G : D) : setO (.box [.row false 83 (yi (upH H n v) T), G]) [(0, 0), (n, 3)] (.row false 3 (row1 cI T[n].kids)) = .box [.row false 83 (yi H T), G] := by
 have e := zeV H h hn v
 simp only [setO, List.getD, List.getElem?_cons_zero, Option.getD_some, List.set_cons_zero, setD, e]
theorem zjH (H : Nat -> Option Value) {T : List NodeD} {n : Nat} (h : n < T.length) (v : Value) (G : D) : subO (.box [.row false 83 (yi (upH H n v) T), G]) [(0, 0), (n, 3)] = some (.sc v) := by
 simp [subO, subD, cellAt, zaa (upH H n v) h, zbP, upH, kidD]
theorem ziA (H : Nat -> Option Value) (T : List NodeD) (x : NodeD) (v : Value) : yi H T ++ [[D.sc (.int .i64 x.kind), .sc (.int .i64 x.num), .sc (.string x.name), .sc v]] = yi (upH H T.length v) (T ++ [x]) := by
 apply List.ext_getElem
 · simp [yi]
 · intro i h1 h2
   simp only [yi, List.length_append, List.length_mapIdx, List.length_singleton] at h1
   by_cases hi : i < T.length
   · rw [List.getElem_append_left (by simpa [yi] using hi)]
     simp only [yi, List.getElem_mapIdx]
     rw [List.getElem_append_left hi]
     have : ¬ i = T.length := by omega
     simp [upH, this]
   · have : i = T.length := by omega
     subst this
     rw [List.getElem_append_right (by simp [yi])]
     simp [yi, zbP, upH, kidD]
theorem zkB (H : Nat -> Option Value) (T : List NodeD) (n : Nat) (x : NodeD) (v : Value) : (yi H T).set n [D.sc (.int .i64 x.kind), .sc (.int .i64 x.num), .sc (.string x.name), .sc v] = yi (upH H n v) (T.set n x) := by
 apply List.ext_getElem
 · simp [yi]
 · intro i h1 h2
   rw [List.getElem_set]
   split
   · rename_i e; subst e
     simp [yi, zbP, upH, kidD]
   · rename_i e
     have h3 : ¬ i = n := fun e' => e e'.symm
     simp only [yi, List.getElem_mapIdx]
     rw [List.getElem_set_ne e]
     simp [upH, h3]
theorem zqB {n : Nat} (h : n <= 300) : (n + 1 <= 140737488355328 /\ (n + 1) * 56 <= 140737488355328) /\ (n + 1 + 1 <= 140737488355328 /\ (n + 1 + 1) * 56 <= 140737488355328) /\ IntKind.i64.wrap (((n + 1 : Nat) : Int) - 1) = n /\ IntKind.i64.wrap (((n + 2 : Nat) : Int) - 1) = ((n + 1 : Nat) : Int) :=
 ⟨⟨by omega, by omega⟩, ⟨by omega, by omega⟩, by rw [show (((n + 1 : Nat) : Int) - 1) = n by omega]; exact w64 (by omega) (by omega), by rw [show (((n + 2 : Nat) : Int) - 1) = ((n + 1 : Nat) : Int) by omega]; exact w64 (by omega) (by omega)⟩
structure ExM (p : ProgramD) (k b i : Nat) (s : ByteArray) (v : Value) (M1 M2 M3 : List NodeD) : Prop where
 l1 : M1.length = p.nodes.length + 1
 l2 : M2.length = p.nodes.length + 2
 l3 : M3.length = p.nodes.length + 2
 e1 : ∀ h : k < p.nodes.length, yi (upH (fun _ => none) k v) p.nodes ++ [[D.sc (.int .i64 p.nodes[k].kind), .sc (.int .i64 p.nodes[k].num), .sc (.string p.nodes[k].name), .sc v]] = yi (upH (upH (fun _ => none) k v) p.nodes.length v) M1
 e2 : yi (upH (upH (fun _ => none) k v) p.nodes.length v) M1 ++ [[D.sc (.int .i64 13), .sc (.int .i64 0), .sc (.string s), .row false 3 [[.sc (.int .i64 p.nodes.length)]]]] = yi (upH (upH (fun _ => none) k v) p.nodes.length v) M2
 e3 : (yi (upH (upH (fun _ => none) k v) p.nodes.length v) M2).set k [D.sc (.int .i64 2), .sc (.int .i64 0), .sc (.string s), .sc (.slice none 0 0)] = yi (upH (upH (fun _ => none) p.nodes.length v) k (.slice none 0 0)) M3
 n0 : ∀ (h : k < p.nodes.length) (h2 : p.nodes.length < M3.length), M3[p.nodes.length].kids = p.nodes[k].kids
 nk : ∀ h : k < M3.length, M3[k].kids = []
 nb : ∀ (h : b < p.nodes.length) (h2 : b < M3.length), M3[b] = p.nodes[b]
 out : exPB p k b i s = ⟨YA M3 b i (p.nodes.length + 1), p.fns⟩
 few : ∀ x ∈ (exPB p k b i s).nodes, x.kids.length <= 13
theorem exM {p : ProgramD} (hG : Right p) {k b i t : Nat} (h : StepIs p k b i t) (s : ByteArray) (v : Value) : ∃ M1 M2 M3, ExM p k b i s v M1 M2 M3 := by
 have hk := h.hk
 have hb := h.hb
 have hi := h.hi
 have hbk : b ≠ k := fun e => by
   have h1 := h.blk
   have h2 := h.val
   subst e
   rw [h1] at h2
   revert h2; decide
 have hf := hG.deep.few
 have hout : exPB p k b i s = ⟨YA (((p.nodes ++ [p.nodes[k]]) ++ [Zf s p.nodes.length]).set k (xL s)) b i (p.nodes.length + 1), p.fns⟩ := by
   unfold exPB exB
   rw [zH hk]
 have hnb : ∀ (h2 : b < (((p.nodes ++ [p.nodes[k]]) ++ [Zf s p.nodes.length]).set k (xL s)).length), (((p.nodes ++ [p.nodes[k]]) ++ [Zf s p.nodes.length]).set k (xL s))[b] = p.nodes[b] := fun h2 => by
   rw [List.getElem_set_ne (fun e => hbk e.symm), List.getElem_append_left (by simp; omega), List.getElem_append_left hb]
 refine ⟨p.nodes ++ [p.nodes[k]], (p.nodes ++ [p.nodes[k]]) ++ [Zf s p.nodes.length], ((p.nodes ++ [p.nodes[k]]) ++ [Zf s p.nodes.length]).set k (xL s), ⟨by simp, by simp, by simp, fun _ => ziA _ _ _ _, ?_, ?_, fun _ h2 => ?_, fun h2 => ?_, fun _ h2 => hnb h2, hout, fun x hx => ?_⟩⟩
 · exact zkA (upH (upH (fun _ => none) k v) p.nodes.length v) (p.nodes ++ [p.nodes[k]]) (Zf s p.nodes.length) (by
     rw [List.length_append, List.length_singleton]
     unfold upH
     rw [if_neg (by omega), if_neg (by omega)])
 · have := zkB (upH (upH (fun _ => none) k v) p.nodes.length v) ((p.nodes ++ [p.nodes[k]]) ++ [Zf s p.nodes.length]) k (xL s) (.slice none 0 0)
   have hHH : upH (upH (upH (fun _ => none) k v) p.nodes.length v) k (.slice none 0 0) = upH (upH (fun _ => none) p.nodes.length v) k (.slice none 0 0) := by
     funext j
     unfold upH
     by_cases h1 : j = k
     · rw [if_pos h1, if_pos h1]
     · rw [if_neg h1, if_neg h1, if_neg h1]
   rw [hHH] at this
   exact this
 · rw [List.getElem_set_ne (by omega), List.getElem_append_left (by simp), List.getElem_append_right (by simp)]
   simp
 · rw [List.getElem_set_self]; rfl
 · have hle : ∀ x ∈ ((p.nodes ++ [p.nodes[k]]) ++ [Zf s p.nodes.length]).set k (xL s), x.kids.length <= 12 := fun x hx => by
     rcases List.mem_or_eq_of_mem_set hx with hx | rfl
     · rcases List.mem_append.1 hx with hx | hx
       · rcases List.mem_append.1 hx with hx | hx
         · exact hf x hx
         · rw [List.mem_singleton.1 hx]; exact hf _ (List.getElem_mem hk)
       · rw [List.mem_singleton.1 hx]; simp [Zf]
     · simp [xL]
   have hbf := hf p.nodes[b] (List.getElem_mem hb)
   rw [hout] at hx
   simp only [YA] at hx
   rcases List.mem_or_eq_of_mem_set hx with hx | rfl
   · have := hle x hx; omega
   · rw [zH (by simp; omega), hnb]
     simp only [zei, List.length_append, List.length_take, List.length_drop, List.length_singleton]
     omega
end Go.Proofs.YtjjigphfjclofaaGreatDoor.AW
