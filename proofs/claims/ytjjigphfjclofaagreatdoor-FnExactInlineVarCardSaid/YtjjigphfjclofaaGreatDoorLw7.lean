/- What the statements of this set lean on, part 7. No condition beyond those named. -/
import Derived.Test.YtjjigphfjclofaaGreatDoorLw6
namespace Go.Proofs.YtjjigphfjclofaaGreatDoor.AW
open Go.RowKit
open Nat (reduceAdd reduceMul)
set_option linter.unusedSimpArgs false
set_option linter.unusedVariables false
inductive Sch where
 | done
 | one (i : Nat) (t : Bool) (r : Sch)
 | two (i : Nat) (r : Sch) (j : Nat) (s : Sch)
 | three (i : Nat) (r : Sch) (j : Nat) (s : Sch) (k : Nat) (q : Sch)
def zcB (P : Program) (C : Cx) (ops : Array Oper) (i : Nat) (st : St) (K : St -> Prop) : Prop := match ops[i]? with
 | some o => Ze st o /\ zia P C ops st o K
 | none => False
def Xh (P : Program) (C : Cx) (ops : Array Oper) : Sch -> St -> (St -> Prop) -> Prop
 | .done, st, K => K st
 | .one i t r, st, K => match ops[i]? with
   | some o => Ze st o /\ match t with
     | true => (match zku P ops st o with
       | some (s, v) => s /\ ev (b := ⟨fun st' => Xh P C ops r st' K⟩) (Zx st o.dst v)
       | none => False)
     | false => zia P C ops st o (fun st' => Xh P C ops r st' K)
   | none => False
 | .two i r j s, st, K => zcB P C ops i st (fun st' => Xh P C ops r st' K) /\ zcB P C ops j st (fun st' => Xh P C ops s st' K)
 | .three i r j s k q, st, K => zcB P C ops i st (fun st' => Xh P C ops r st' K) /\ zcB P C ops j st (fun st' => Xh P C ops s st' K) /\ zcB P C ops k st (fun st' => Xh P C ops q st' K)
def zaa (ops : Array Oper) : Sch -> Array Bool -> Nat -> Bool
 | .done, l, n => (Region.ready .any ops l).isEmpty && n == 0
 | .one i t r, l, n + 1 => (match t with
   | true => (Region.ready .any ops l).contains i && Region.free .any ops l i
   | false => Region.ready .any ops l == [i]) && zaa ops r (l.setIfInBounds i true) n
 | .two i r j s, l, n + 1 => Region.ready .any ops l == [i, j] && (zaa ops r (l.setIfInBounds i true) n && zaa ops s (l.setIfInBounds j true) n)
 | .three i r j s k q, l, n + 1 => Region.ready .any ops l == [i, j, k] && (zaa ops r (l.setIfInBounds i true) n && (zaa ops s (l.setIfInBounds j true) n && zaa ops q (l.setIfInBounds k true) n))
 | _, _, 0 => false
def zot (ops : Array Oper) (sch : Sch) : Bool := Region.noSelect ops && zaa ops sch (Array.replicate ops.size false) ops.size
section
variable {P : Program} {w w1 : World} {C : Cx} {X : Nat -> Prop} {gh gh1 : Gh} {st : St} {a : Act} {v : V} {u : Value} {ob : List (Nat × Ob)} {S : Nat -> Prop} {K : St -> Prop}
theorem zeu (hz : xu P) {ops : Array Oper} {Q : Exit -> St -> Prop} {w : World} {gh : Gh} {C0 : Cx} {X0 : Nat -> Prop} {st0 : St} {a0 : Act} (h0 : Rep P C0 X0 st0 a0 w gh) (hns : Region.noSelect ops = true) :
   ∀ (sch : Sch) (l : Array Bool) (n : Nat) {st : St} {a : Act} {w1 : World} {gh1 : Gh}, Rep P (C0.here w gh.S) No st a w1 gh1 -> zaa ops sch l n = true -> Xh P (C0.here w gh.S) ops sch st (Q .normal) ->
   wpAnyH P .any ops (fun e a' w' => match e with | .normal => Up P (C0.here w gh.S) (Q .normal) a' w' | _ => False) (fun w' => ∀ k, gh.S k -> w'.heap[k]? = w.heap[k]?) n l a w1 := by
 have stepOf : ∀ (i : Nat) (r : Sch) (l : Array Bool) (n : Nat) {st : St} {a : Act} {w1 : World} {gh1 : Gh}, Rep P (C0.here w gh.S) No st a w1 gh1 ->
     (∀ {st : St} {a : Act} {w1 : World} {gh1 : Gh}, Rep P (C0.here w gh.S) No st a w1 gh1 -> Xh P (C0.here w gh.S) ops r st (Q .normal) -> wpAnyH P .any ops (fun e a' w' => match e with | .normal => Up P (C0.here w gh.S) (Q .normal) a' w' | _ => False) (fun w' => ∀ k, gh.S k -> w'.heap[k]? = w.heap[k]?) n (l.setIfInBounds i true) a w1) ->
     zcB P (C0.here w gh.S) ops i st (fun st' => Xh P (C0.here w gh.S) ops r st' (Q .normal)) ->
     wpOp P ops (fun e a' w' => match e with | .normal => Up P (C0.here w gh.S) (Q .normal) a' w' | _ => False) i (fun a' w' => (∀ k, gh.S k -> w'.heap[k]? = w.heap[k]?) /\ wpAnyH P .any ops (fun e a' w' => match e with | .normal => Up P (C0.here w gh.S) (Q .normal) a' w' | _ => False) (fun w' => ∀ k, gh.S k -> w'.heap[k]? = w.heap[k]?) n (l.setIfInBounds i true) a' w') a w1 := fun i r l n st a w1 gh1 h hrec hk => by
   unfold zcB at hk
   split at hk
   case h_2 => exact hk.elim
   rename_i o ho
   obtain ⟨hdst, hk⟩ := hk
   unfold wpOp
   simp only [ho]
   have hop := Yv (Q := fun e a' w' => match e with | .normal => Up P (C0.here w gh.S) (Q .normal) a' w' | _ => False) hz h hdst hk
   have next : ∀ a' w', Up P (C0.here w gh.S) (fun st' => Xh P (C0.here w gh.S) ops r st' (Q .normal)) a' w' -> (∀ k, gh.S k -> w'.heap[k]? = w.heap[k]?) /\
       wpAnyH P .any ops (fun e a' w' => match e with | .normal => Up P (C0.here w gh.S) (Q .normal) a' w' | _ => False) (fun w' => ∀ k, gh.S k -> w'.heap[k]? = w.heap[k]?) n (l.setIfInBounds i true) a' w' := fun a' w' ⟨st', gh', hk', h'⟩ =>
     ⟨h0.lent h', hrec h' hk'⟩
   split
   · rename_i hw
     rw [if_pos hw] at hop
     exact Or.inl (Oper.wp_mono next hop)
   · rename_i hw
     rw [if_neg hw] at hop
     exact next _ _ hop
 intro sch
 induction sch with
 | done =>
   intro l n st a w1 gh1 h hb hk
   simp only [zaa, Bool.and_eq_true, List.isEmpty_iff] at hb
   exact wpAnyH_done hb.1 ⟨st, gh1, hk, h⟩ _
 | one i t r ih =>
   intro l n st a w1 gh1 h hb hk
   cases n with
   | zero => simp [zaa] at hb
   | succ n =>
   simp only [zaa, Bool.and_eq_true] at hb
   obtain ⟨hb1, hb2⟩ := hb
   cases t with
   | true =>
     unfold Xh at hk
     split at hk
     case h_2 => exact hk.elim
     rename_i o ho
     obtain ⟨hdst, hk⟩ := hk
     simp only at hk hb1
     simp only [Bool.and_eq_true] at hb1
     split at hk
     case h_2 => exact hk.elim
     rename_i s v hp
     obtain ⟨y, hy, hv⟩ := zaq (Sw := fun w' => ∀ k, gh.S k -> w'.heap[k]? = w.heap[k]?) hz h (fun w' hw k hk => by
       have h1 := h.sZ k hk
       exact (hw k h1).trans (h0.lent h k h1).symm) hp hk.1
     exact wpAnyH_take ho hns hb1.2 hb1.1 (fun c a w hq => hq.elim) hy (h0.lent h) (ih _ _ (h.dst (zai hdst) hv) hb2 hk.2)
   | false =>
     simp only at hb1
     refine wpAnyH_all (rs := [i]) (by simpa using hb1) (by simp) (fun i' hi' => ?_)
     rw [List.mem_singleton] at hi'
     subst hi'
     refine stepOf i' r l n h (fun h' hk' => ih _ _ h' hb2 hk') ?_
     unfold Xh at hk
     unfold zcB
     split at hk
     · exact hk
     · exact hk.elim
 | two i r j s ih1 ih2 =>
   intro l n st a w1 gh1 h hb hk
   cases n with
   | zero => simp [zaa] at hb
   | succ n =>
   simp only [zaa, Bool.and_eq_true, beq_iff_eq] at hb
   obtain ⟨hb1, hb2, hb3⟩ := hb
   obtain ⟨hk1, hk2⟩ := hk
   refine wpAnyH_all (rs := [i, j]) hb1 (by simp) (fun i' hi' => ?_)
   simp only [List.mem_cons, List.not_mem_nil, or_false] at hi'
   rcases hi' with rfl | rfl
   · exact stepOf _ r l n h (fun h' hk' => ih1 _ _ h' hb2 hk') hk1
   · exact stepOf _ s l n h (fun h' hk' => ih2 _ _ h' hb3 hk') hk2
 | three i r j s k q ih1 ih2 ih3 =>
   intro l n st a w1 gh1 h hb hk
   cases n with
   | zero => simp [zaa] at hb
   | succ n =>
   simp only [zaa, Bool.and_eq_true, beq_iff_eq] at hb
   obtain ⟨hb1, hb2, hb3, hb4⟩ := hb
   obtain ⟨hk1, hk2, hk3⟩ := hk
   refine wpAnyH_all (rs := [i, j, k]) hb1 (by simp) (fun i' hi' => ?_)
   simp only [List.mem_cons, List.not_mem_nil, or_false] at hi'
   rcases hi' with rfl | rfl | rfl
   · exact stepOf _ r l n h (fun h' hk' => ih1 _ _ h' hb2 hk') hk1
   · exact stepOf _ s l n h (fun h' hk' => ih2 _ _ h' hb3 hk') hk2
   · exact stepOf _ q l n h (fun h' hk' => ih3 _ _ h' hb4 hk') hk3
theorem Tri.fork (hz : xu P) {id : Nat} {ops : Array Oper} {Q : Exit -> St -> Prop} (sch : Sch) (hm : P.follows .mixedOrders = true) (hb : zot ops sch = true) (hk : ∀ C', C'.pin = C.pin -> Xh P C' ops sch st (Q .normal)) : Tri P C st (.region id ops true) Q := fun a w gh hR => by
 simp only [zot, Bool.and_eq_true] at hb
 obtain ⟨hb1, hb2⟩ := hb
 have hd := hR.drew
 refine Code.wp_mono (fun e a' w' hq => ?_) (wp_region_held (S := fun w' => ∀ k, gh.S k -> w'.heap[k]? = w.drew.heap[k]?) hm ?_ (Q := fun e a' w' => match e with | .normal => Up P (C.here w.drew gh.S) (Q .normal) a' w' | _ => False))
 · cases e with
   | normal =>
     obtain ⟨st', gh', hk', h'⟩ := hq
     exact ⟨st', gh', hk', hd.back h'⟩
   | _ => exact hq.elim
 · exact zeu hz hd hb1 sch (Array.replicate ops.size false) ops.size hd.here hb2 (Q := Q) (hk _ rfl)
def St.shb (st : St) (o : Nat) : St := match look st.ob o with
 | some (.box cs) => st.swap o (.box (shL cs))
 | _ => st
def Gh.shb (gh : Gh) (o : Nat) : Gh := { gh with S := fun k => gh.S k \/ (gh.F o k /\ k ≠ gh.bb o), F := fun o' k => if o' = o then k = gh.bb o else gh.F o' k }
theorem Ro.own {d : D} (h : Ro P w S (shD d) u) : Ow P w S (shD d) u (fun _ => False) := by
 cases d with
 | dead => exact .dead h.one
 | sc v => simp only [shD] at h |-; cases h with | sc h => exact .sc h
 | row sh e es => simp only [shD] at h |-; exact .shared h
theorem VR.shb (h : VR P w gh st.ob v u) {o : Nat} {cs : List D} (ho : look st.ob o = some (.box cs)) : VR P w (gh.shb o) (st.swap o (.box (shL cs))).ob (zR o v) u := by
 have hne : ∀ o' x, o' ≠ o -> look st.ob o' = some x -> look (st.swap o (.box (shL cs))).ob o' = some x := fun o' x hne hx => by
   simp only [St.swap, look, if_neg hne]; rw [ye, if_neg (fun e => hne e.symm)]; exact hx
 have hself : look (st.swap o (.box (shL cs))).ob o = some (.box (shL cs)) := by simp [St.swap, look]
 induction h with
 | dead => exact .dead
 | und => exact .und
 | sc h => exact .sc h
 | nil => exact .nil
 | imm h => exact .imm (h.mono (fun k hk => Or.inl hk))
 | @ref o' n p y e es A c hx hn hle =>
   by_cases e1 : o' = o
   · subst e1
     rw [ho] at hx; cases hx
     cases p with
     | nil => have := hn.sub; simp [subO] at this
     | cons z p => simp only [zR, if_true]; exact .dead
   · have : zR o (.ref o' p n) = .ref o' p n := by cases p <;> simp [zR, e1]
     rw [this]
     exact .ref (hne o' y e1 hx) (hn.ghc rfl rfl rfl) hle
 | @bp o' j cs' hx =>
   by_cases e1 : o' = o
   · subst e1
     exact VR.bp (gh := gh.shb o') hself
   · exact VR.bp (gh := gh.shb o) (hne o' _ e1 hx)
 | @rp o' i j p y e es ad c hx hn =>
   by_cases e1 : o' = o
   · subst e1
     rw [ho] at hx; cases hx
     cases p with
     | nil => have := hn.sub; simp [subO] at this
     | cons z p => simp only [zR, if_true]; exact .dead
   · have : zR o (.rp o' p i j) = .rp o' p i j := by cases p <;> simp [zR, e1]
     rw [this]
     exact .rp (hne o' y e1 hx) (hn.ghc rfl rfl rfl)
 | ip U hs h => exact .ip U (Or.inl hs) (fun q d hd => ⟨(h q d hd).1, (h q d hd).2.mono (fun k hk => Or.inl hk)⟩)
 | clo h => exact .clo (gh := gh.shb o) (h.same (fun k hk => Or.inl hk))
 | agg hl h1 h ih =>
   simp only [zR]
   refine .agg (by rw [ZD]; exact hl) h1 (fun i v hv => ?_)
   rw [XS] at hv
   obtain ⟨v0, hv0, rfl⟩ := Option.map_eq_some_iff.1 hv
   exact ih i v0 hv0
 | tup hl h ih =>
   simp only [zR]
   refine .tup (by rw [ZD]; exact hl) (fun i v hv => ?_)
   rw [XS] at hv
   obtain ⟨v0, hv0, rfl⟩ := Option.map_eq_some_iff.1 hv
   exact ih i v0 hv0
 | cond ht hf ih => simp only [zR]; exact .cond ih hf
theorem Ent.shb (hz : C.full) (o : Nat) : Ent P C st (st.shb o) := fun a w gh h => by
 unfold St.shb
 split
 case h_2 => exact ⟨gh, h⟩
 rename_i cs ho
 have hob := h.obs o _ ho
 have hbF : gh.F o (gh.bb o) := by cases hob with | box xs G hb hl h1 hc hx dis nb hF => exact (hF _).2 (Or.inl rfl)
 have hd : ∀ o' x, look (st.swap o (.box (shL cs))).ob o' = some x -> (o' = o /\ x = .box (shL cs)) \/ (o' ≠ o /\ look st.ob o' = some x) := fun o' x hx => by
   simp only [St.swap, look] at hx
   by_cases e1 : o' = o
   · rw [if_pos e1] at hx; cases hx; exact Or.inl ⟨e1, rfl⟩
   · rw [if_neg e1, ye, if_neg (fun e => e1 e.symm)] at hx; exact Or.inr ⟨e1, hx⟩
 have hF : ∀ o' k, (gh.shb o).F o' k -> gh.F o' k := fun o' k hk => by
   simp only [Gh.shb] at hk
   by_cases e1 : o' = o
   · rw [if_pos e1] at hk; subst e1; rw [hk]; exact hbF
   · rw [if_neg e1] at hk; exact hk
 have hold : ∀ o' x, look (st.swap o (.box (shL cs))).ob o' = some x -> ∃ y, look st.ob o' = some y := fun o' x hx => by
   rcases hd o' x hx with ⟨rfl, _⟩ | ⟨_, hx⟩
   · exact ⟨_, ho⟩
   · exact ⟨_, hx⟩
 refine ⟨gh.shb o, ?_⟩
 exact {
   obs := fun o' b hb => by
     rcases hd o' b hb with ⟨rfl, rfl⟩ | ⟨hne, hb⟩
     · cases hob with
       | box xs G hb hl h1 hc hx dis nb hF =>
         refine ObR.box xs (fun _ _ => False) hb (by rw [Xn, List.length_map]; exact hl) h1 hc (fun j d hd => ?_) (fun _ _ _ _ _ _ _ hh => hh.elim) (fun _ _ _ _ hh => hh.elim) (fun k => ?_)
         · rw [Xn, List.getElem?_map] at hd
           obtain ⟨d0, hd0, rfl⟩ := Option.map_eq_some_iff.1 hd
           exact Ro.own (Ro.sh ((hx j d0 hd0).ro (fun k hk => Or.inr ⟨(hF k).2 (Or.inr ⟨j, d0, hd0, hk⟩), nb j d0 k hd0 hk⟩) (fun k hk => Or.inl hk)))
         · simp [Gh.shb]
     · have hm := (h.obs o' b hb).mono (F := fun k => gh.F o k /\ k ≠ gh.bb o)
       exact hm.at rfl rfl rfl rfl (by funext k; simp [Gh.shb, Gh.more, hne])
   dis := fun o1 o2 b1 b2 k h1 h2 hk1 hk2 => by
     obtain ⟨y1, h1⟩ := hold _ _ h1
     obtain ⟨y2, h2⟩ := hold _ _ h2
     exact h.dis o1 o2 y1 y2 k h1 h2 (hF _ _ hk1) (hF _ _ hk2)
   sS := fun k hk => hk.elim (h.sS k) (fun hk => hob.lt k hk.1)
   nS := fun o' b k hb hk hS => by
     obtain ⟨y, hy⟩ := hold _ _ hb
     rcases hS with hS | ⟨hS, hne⟩
     · exact h.nS o' y k hy (hF _ _ hk) hS
     · have e1 := h.dis o' o y _ k hy ho (hF _ _ hk) hS
       subst e1
       simp only [Gh.shb, if_true] at hk
       exact hne hk
   wrR := fun o' e' es' k hb hk => by
     rcases hd _ _ hb with ⟨_, hx⟩ | ⟨_, hx⟩
     · cases hx
     · exact h.wrR o' e' es' k hx (hF _ _ hk)
   wrB := fun o' cs' k hb hk hne => by
     rcases hd _ _ hb with ⟨e1, hx⟩ | ⟨_, hx⟩
     · subst e1
       simp only [Gh.shb, if_true] at hk
       exact (hne hk).elim
     · exact h.wrB o' cs' k hx (hF _ _ hk) hne
   wrC := fun o' cs' j hb hj => by
     rcases hd _ _ hb with ⟨e1, hx⟩ | ⟨_, hx⟩
     · subst e1; cases hx
       rw [Xn, List.length_map] at hj
       exact h.wrC _ cs j ho hj
     · exact h.wrC o' cs' j hx hj
   kept := h.kept
   pins := fun o' x hp hn => h.pins o' x hp (fun e' => by
     cases hq : look (st.swap o (.box (shL cs))).ob o' with
     | none => exact hn hq
     | some y =>
       obtain ⟨y2, h2⟩ := hold _ _ hq
       rw [e'] at h2; cases h2)
   tms := fun t => by
     rw [St.get_swap]
     exact (h.tms t).shb ho
   nt := h.nt
   dfs := h.dfs
   xl := h.xl
   xS := fun k hk hS => hS.elim (h.xS k hk) (fun hk' => h.xF o _ k ho hk hk'.1)
   xF := fun o' b k hb hk hk2 => by
     obtain ⟨y, hy⟩ := hold _ _ hb
     exact h.xF o' y k hy hk (hF _ _ hk2)
   xW := h.xW
   s0S := fun k hk => Or.inl (h.s0S k hk)
   sZ := fun k hk => hk.elim (h.sZ k) (fun hk' => hz k ((h.wrB o cs k ho hk'.1 hk'.2).imp id (fun hh => ⟨0, hh 0⟩))) }
theorem Tri.last (F : St -> St) (hF : ∀ s, Ent P C s (F s)) {c : Code} {Q : Exit -> St -> Prop} (h : Tri P C st c (fun e s => Q e (F s))) : Tri P C st c Q := fun a w gh hR =>
 Code.wp_mono (fun e a' w' ⟨s, g, hk, hr⟩ => by
   obtain ⟨g', hr'⟩ := hF s a' w' g hr
   exact ⟨F s, g', hk, hr'⟩) (h a w gh hR)
end
attribute [go_sem] Xh zcB St.shb
set_option maxHeartbeats 8000000
set_option maxRecDepth 100000
theorem zqr : fo Tryz.prog 170 0 = some 0 := by kernel_rfl
theorem zqq : fo Tryz.prog 170 1 = some 2 := by kernel_rfl
theorem zqp : fo Tryz.prog 170 2 = some 3 := by kernel_rfl
theorem zqo : fo Tryz.prog 170 3 = some 4 := by kernel_rfl
theorem zqZ : isR Tryz.prog 170 = some true := by kernel_rfl
theorem zqS : szT Tryz.prog 170 = 5 := by kernel_rfl
theorem zqL : zeroCells Tryz.prog 170 = some [.slice none 0 0, .slice none 0 0, .int .i64 0, .slice none 0 0, .bool false] := by kernel_rfl
theorem zqf : xy Tryz.prog 170 = some [(0, 2), (2, 1), (3, 1), (4, 1)] := by kernel_rfl
attribute [go_sem] zqr zqq zqp zqo zqZ zqS zqL zqf
def zy (p : ProgramD) (f : Nat) (nm : List ByteArray) (bad : Bool) : List D := [.row true 83 (rows (zg true) p.nodes), .row true 104 (rows (fnC true) p.fns), cI f, .row true 9 (row1 cS nm), cB bad]
theorem zaA (S : Int -> List ByteArray -> Bool) (nodes : List NodeD) (nm : List ByteArray) : ∀ l : List Int, xY S nodes false nm l = l.all (fun kid => S kid nm)
 | [] => rfl
 | k :: r => by
   unfold xY Xf
   rw [Bool.false_and, if_neg (by decide), zaA S nodes nm r]; rfl
theorem Zq {nodes : List NodeD} {n : Nat} (hd : dAt nodes n ≠ 0) (hn : n < nodes.length) {i : Nat} (hi : i < nodes[n].kids.length) : yC nodes[n].kind i (nAt nodes nodes[n].kids[i]).kind = true := by
 have hb := Zn nodes n hd
 simp only [ZC, Bool.and_eq_true, Xc] at hb
 obtain ⟨_, _, _, _, _, hr⟩ := hb
 rw [zF hn, yn] at hr
 have := hr i hi
 simp only [kidB, Bool.and_eq_true] at this
 have hg : nodes[n].kids.getD i 0 = nodes[n].kids[i] := by simp [List.getD, hi]
 rw [hg] at this
 exact this.2.2
theorem zlo {k : Int} (h : xw k = true) : (k == 20) = false /\ (k == 16) = false /\ (k == 17) = false /\ (k == 19) = false /\ (k == 14) = false /\ (k == 15) = false /\ (k == 13) = false := by
 have := zx (show inI k 1 12 = true from h)
 refine ⟨?_, ?_, ?_, ?_, ?_, ?_, ?_⟩ <;> (apply Bool.eq_false_iff.2; intro hh; have := eq_of_beq hh; omega)
theorem zbC {f : Int -> Bool} {l : List Int} {i : Nat} (h : i < l.length) : (l.take (i + 1)).all f = ((l.take i).all f && f l[i]) := by
 rw [List.take_succ_eq_append_getElem h, List.all_append]; simp
theorem zcP (p : ProgramD) (hD : Deep p.nodes) (f : Nat) (hfl : f < p.fns.length) (hf : p.fns.length <= 1048576) (hn : p.nodes.length <= 1048576) (hk : ∀ x ∈ p.nodes, x.kids.length <= 300) (nm : List ByteArray) (hnm : nm.length <= 4194304) (n : Nat) : n < p.nodes.length -> xw (nAt p.nodes n).kind = true -> ∀ bad : Bool,
   SoundAt Tryz.prog 167 (fun uf => zp 0 [.ro (.bp 2000 0), .ro (.sc (.int .i64 n))]) [(2000, .box (zy p f nm bad))]
     (fun rs st => rs = [] /\ xK st.ob [(2000, .box (zy p f nm (bad || !zT p f n nm)))]) := by
 induction n using Nat.strongRecOn with
 | ind n ih =>
 intro hnl hval bad
 rw [zF hnl] at hval
 have hkid := hD.kid hnl
 have hkx := hk p.nodes[n] (List.getElem_mem hnl)
 have heq := zcF hD f hnl nm
 have hx : (rows (zg true) p.nodes).getD n [] = zg true p.nodes[n] := zh _ _ hnl
 obtain ⟨v20, v16, v17, v19, v14, v15, v13⟩ := zlo hval
 have hrec : ∀ i (hi : i < p.nodes[n].kids.length), ∀ b : Bool, SoundAt Tryz.prog 167 (fun uf => zp 0 [.ro (.bp 2000 0), .ro (.sc (.int .i64 p.nodes[n].kids[i]))]) [(2000, .box (zy p f nm b))]
     (fun rs st => rs = [] /\ xK st.ob [(2000, .box (zy p f nm (b || !zT p f p.nodes[n].kids[i] nm)))]) := fun i hi b => by
   have hft := Zq (hD.deep n hnl) hnl hi
   unfold yC at hft
   rw [v20, v16, v17, v19] at hft
   have hv2 : xw (nAt p.nodes p.nodes[n].kids[i]).kind = true := hft
   obtain ⟨q0, q1, q2⟩ := hkid p.nodes[n].kids[i] (List.getElem_mem hi)
   have e : p.nodes[n].kids[i] = (p.nodes[n].kids[i].toNat : Int) := by omega
   have := ih p.nodes[n].kids[i].toNat q2 (by omega) (by rw [<- e]; exact hv2) b
   rw [<- e] at this
   exact this
 rw [v20, zaA] at heq
 generalize zT p f n nm = R at heq |-
 have hc1 : ((n : Int) < (p.nodes.length : Int)) = True := eq_true (by omega)
 generalize p.nodes[n] = x at hkid hkx heq hx hval v20 v16 v17 v19 v14 v15 v13 hrec
 have hhas := zch nm x.name hnm
 have hfa := zaE p x.name hf
 simp only [zb] at hfa
 refine zm (fn := Tryz.f167) (c := Tryz.f167.body.getD .skip) (res := []) (n := 98) zf (by kernel_rfl) (by rfl) (by kernel_rfl) (by rfl) (by rfl) (by simp [zp]) (fun uf ub C hpin hpin2 hfull => ?_)
 simp only [Tryz.f167, Option.getD_some]
 refine Tri.step zf ?_
 simp +decide only [hc1, hx, zg, Int.natCast_nonneg, zb, za, zy, hpin, hpin2, go_sem, reduceAdd, reduceMul]
 refine Tri.ent ?_ (Ent.frb hfull 4)
 refine Tri.step zf ?_
 simp +decide only [zb, za, zy, hpin, hpin2, go_sem, reduceAdd, reduceMul]
 refine Tri.loop (ι := Nat) (fun i => i <= x.kids.length) (fun i => ⟨98, [(0, .bp 2000 0), (1, vI n), (4, .ip (zg true x) 0), (5, vI i)], [(2000, .box (zy p f nm (bad || !(x.kids.take i).all (fun kid => zT p f kid nm))))]⟩) (fun i => x.kids.length - i) 0 (by simp) ?_ ?_
 · refine Ent.weak ?_ ?_ ?_ ?_ <;> simp +decide [subT, subB, zk, zj, zl, St.get, look, vI, vB, vS, cI, cS, cB, zg, za, zy, roI]
 · rintro i hi
   refine ze zf _ ?_
   by_cases h' : i < x.kids.length
   · have e : ((i : Int) < (x.kids.length : Int)) = True := by simp [h']
     have hs := hrec i h' (bad || !(x.kids.take i).all (fun kid => zT p f kid nm))
     have hnx : ((bad || !(x.kids.take i).all (fun kid => zT p f kid nm)) || !zT p f x.kids[i] nm) = (bad || !(x.kids.take (i + 1)).all (fun kid => zT p f kid nm)) := by
       rw [zbC h']
       generalize (x.kids.take i).all (fun kid => zT p f kid nm) = A
       cases bad <;> cases A <;> rfl
     rw [hnx] at hs
     simp only [zy, cI, cB] at hs
     simp +decide only [e, h', zq _ _ h', zg, Int.natCast_nonneg, vB, vI, zb, za, zy, hpin, hpin2, go_sem, reduceAdd, reduceMul]
     refine yJ hs hpin hfull [(2000, 2000)] [] [(2000, 2000)] ⟨rfl, rfl, rfl, rfl⟩ (fun uf => ?_) ?_
     · simp +decide only [zb, za, zy, hpin, hpin2, go_sem, reduceAdd, reduceMul]
     simp +decide only [zb, za, zy, hpin, hpin2, go_sem, reduceAdd, reduceMul]
     refine ⟨i + 1, h', by omega, Ent.weak ?_ ?_ ?_ ?_⟩
     all_goals simp +decide [subT, subB, zk, zj, zl, St.get, look, vI, vB, vS, cI, cS, cB, zg, za, zy, roI, w64s (n := x.kids.length) h' (by omega)]
   have hil : i = x.kids.length := by omega
   subst hil
   have e : ((x.kids.length : Int) < (x.kids.length : Int)) = False := by simp
   simp +decide only [e, zg, vB, vI, zb, za, zy, hpin, hpin2, go_sem, reduceAdd, reduceMul]
   refine Tri.step zf ?_
   simp +decide only [zg, zb, za, zy, hpin, hpin2, go_sem, reduceAdd, reduceMul]
   refine ze zf _ ?_
   cases h2 : x.kind == 2 with
   | true =>
     have heq2 : R = (ownB p f nm x && x.kids.all (fun kid => zT p f kid nm)) := heq
     have hown : ownB p f nm x = yD nm x.name := by
       have hk := eq_of_beq h2
       unfold ownB xj; rw [hk]; simp [inI]
     simp +decide only [h2, zb, za, zy, hpin, hpin2, go_sem, reduceAdd, reduceMul]
     cases hb : bad || !x.kids.all (fun kid => zT p f kid nm) with
     | true =>
       refine Tri.sched zf [(0, true), (1, false), (2, false), (3, false), (4, false), (5, false), (6, true), (7, true), (8, true), (10, true), (11, true), (9, false), (12, false), (13, false), (14, false), (15, false), (16, false), (17, false)] zV (by kernel_rfl) (fun C2 hC2 => ?_)
       have hp2 := zY hC2 hpin
       have hfin : (bad || !R) = true := by rw [heq2]; rw [Bool.or_eq_true] at hb |-; rcases hb with hb | hb; exact Or.inl hb; right; simp only [Bool.not_eq_true'] at hb |-; rw [hb, Bool.and_false]
       simp +decide only [hb, hfin, zb, za, zy, hp2, hpin, hpin2, go_sem, reduceAdd, reduceMul]
     | false =>
       refine Tri.sched zf [(0, true), (1, false), (2, false), (3, false), (4, false), (5, false), (6, true), (7, true), (8, true), (10, true), (11, true), (9, false), (12, false), (13, false), (14, false), (15, false), (16, false), (17, false)] zV (by kernel_rfl) (fun C2 hC2 => ?_)
       have hp2 := zY hC2 hpin
       obtain ⟨hb1, hb2⟩ := Bool.or_eq_false_iff.1 hb
       have hfin : (bad || !R) = !yD nm x.name := by
         rw [heq2, hb1, Bool.false_or]
         simp only [Bool.not_eq_false'] at hb2
         rw [hb2, Bool.and_true, hown]
       simp +decide only [hb, zb, za, zy, hp2, hpin, hpin2, go_sem, reduceAdd, reduceMul]
       refine zd hhas hp2 ?_
       simp +decide only [hfin, zb, za, zy, hp2, hpin, hpin2, go_sem, reduceAdd, reduceMul]
   | false =>
   cases h3 : x.kind == 3 with
   | true =>
     have heq2 : R = (ownB p f nm x && x.kids.all (fun kid => zT p f kid nm)) := heq
     have hown : ownB p f nm x = yD nm x.name := by
       have hk := eq_of_beq h3
       unfold ownB xj; rw [hk]; simp [inI]
     simp +decide only [h2, h3, zb, za, zy, hpin, hpin2, go_sem, reduceAdd, reduceMul]
     cases hb : bad || !x.kids.all (fun kid => zT p f kid nm) with
     | true =>
       refine Tri.sched zf [(0, true), (1, false), (2, false), (3, false), (4, false), (5, false), (6, true), (7, true), (8, true), (10, true), (11, true), (9, false), (12, false), (13, false), (14, false), (15, false), (16, false), (17, false)] zV (by kernel_rfl) (fun C2 hC2 => ?_)
       have hp2 := zY hC2 hpin
       have hfin : (bad || !R) = true := by rw [heq2]; rw [Bool.or_eq_true] at hb |-; rcases hb with hb | hb; exact Or.inl hb; right; simp only [Bool.not_eq_true'] at hb |-; rw [hb, Bool.and_false]
       simp +decide only [hb, hfin, zb, za, zy, hp2, hpin, hpin2, go_sem, reduceAdd, reduceMul]
     | false =>
       refine Tri.sched zf [(0, true), (1, false), (2, false), (3, false), (4, false), (5, false), (6, true), (7, true), (8, true), (10, true), (11, true), (9, false), (12, false), (13, false), (14, false), (15, false), (16, false), (17, false)] zV (by kernel_rfl) (fun C2 hC2 => ?_)
       have hp2 := zY hC2 hpin
       obtain ⟨hb1, hb2⟩ := Bool.or_eq_false_iff.1 hb
       have hfin : (bad || !R) = !yD nm x.name := by
         rw [heq2, hb1, Bool.false_or]
         simp only [Bool.not_eq_false'] at hb2
         rw [hb2, Bool.and_true, hown]
       simp +decide only [hb, zb, za, zy, hp2, hpin, hpin2, go_sem, reduceAdd, reduceMul]
       refine zd hhas hp2 ?_
       simp +decide only [hfin, zb, za, zy, hp2, hpin, hpin2, go_sem, reduceAdd, reduceMul]
   | false =>
   cases h4 : x.kind == 4 with
   | true =>
     have heq2 : R = (ownB p f nm x && x.kids.all (fun kid => zT p f kid nm)) := heq
     have hown : ownB p f nm x = yD nm x.name := by
       have hk := eq_of_beq h4
       unfold ownB xj; rw [hk]; simp [inI]
     simp +decide only [h2, h3, h4, zb, za, zy, hpin, hpin2, go_sem, reduceAdd, reduceMul]
     cases hb : bad || !x.kids.all (fun kid => zT p f kid nm) with
     | true =>
       refine Tri.sched zf [(0, true), (1, false), (2, false), (3, false), (4, false), (5, false), (6, true), (7, true), (8, true), (10, true), (11, true), (9, false), (12, false), (13, false), (14, false), (15, false), (16, false), (17, false)] zV (by kernel_rfl) (fun C2 hC2 => ?_)
       have hp2 := zY hC2 hpin
       have hfin : (bad || !R) = true := by rw [heq2]; rw [Bool.or_eq_true] at hb |-; rcases hb with hb | hb; exact Or.inl hb; right; simp only [Bool.not_eq_true'] at hb |-; rw [hb, Bool.and_false]
       simp +decide only [hb, hfin, zb, za, zy, hp2, hpin, hpin2, go_sem, reduceAdd, reduceMul]
     | false =>
       refine Tri.sched zf [(0, true), (1, false), (2, false), (3, false), (4, false), (5, false), (6, true), (7, true), (8, true), (10, true), (11, true), (9, false), (12, false), (13, false), (14, false), (15, false), (16, false), (17, false)] zV (by kernel_rfl) (fun C2 hC2 => ?_)
       have hp2 := zY hC2 hpin
       obtain ⟨hb1, hb2⟩ := Bool.or_eq_false_iff.1 hb
       have hfin : (bad || !R) = !yD nm x.name := by
         rw [heq2, hb1, Bool.false_or]
         simp only [Bool.not_eq_false'] at hb2
         rw [hb2, Bool.and_true, hown]
       simp +decide only [hb, zb, za, zy, hp2, hpin, hpin2, go_sem, reduceAdd, reduceMul]
       refine zd hhas hp2 ?_
       simp +decide only [hfin, zb, za, zy, hp2, hpin, hpin2, go_sem, reduceAdd, reduceMul]
   | false =>
   cases h5 : x.kind == 5 with
   | true =>
     have heq2 : R = (ownB p f nm x && x.kids.all (fun kid => zT p f kid nm)) := heq
     have hown : ownB p f nm x = yD nm x.name := by
       have hk := eq_of_beq h5
       unfold ownB xj; rw [hk]; simp [inI]
     simp +decide only [h2, h3, h4, h5, zb, za, zy, hpin, hpin2, go_sem, reduceAdd, reduceMul]
     cases hb : bad || !x.kids.all (fun kid => zT p f kid nm) with
     | true =>
       refine Tri.sched zf [(0, true), (1, false), (2, false), (3, false), (4, false), (5, false), (6, true), (7, true), (8, true), (10, true), (11, true), (9, false), (12, false), (13, false), (14, false), (15, false), (16, false), (17, false)] zV (by kernel_rfl) (fun C2 hC2 => ?_)
       have hp2 := zY hC2 hpin
       have hfin : (bad || !R) = true := by rw [heq2]; rw [Bool.or_eq_true] at hb |-; rcases hb with hb | hb; exact Or.inl hb; right; simp only [Bool.not_eq_true'] at hb |-; rw [hb, Bool.and_false]
       simp +decide only [hb, hfin, zb, za, zy, hp2, hpin, hpin2, go_sem, reduceAdd, reduceMul]
     | false =>
       refine Tri.sched zf [(0, true), (1, false), (2, false), (3, false), (4, false), (5, false), (6, true), (7, true), (8, true), (10, true), (11, true), (9, false), (12, false), (13, false), (14, false), (15, false), (16, false), (17, false)] zV (by kernel_rfl) (fun C2 hC2 => ?_)
       have hp2 := zY hC2 hpin
       obtain ⟨hb1, hb2⟩ := Bool.or_eq_false_iff.1 hb
       have hfin : (bad || !R) = !yD nm x.name := by
         rw [heq2, hb1, Bool.false_or]
         simp only [Bool.not_eq_false'] at hb2
         rw [hb2, Bool.and_true, hown]
       simp +decide only [hb, zb, za, zy, hp2, hpin, hpin2, go_sem, reduceAdd, reduceMul]
       refine zd hhas hp2 ?_
       simp +decide only [hfin, zb, za, zy, hp2, hpin, hpin2, go_sem, reduceAdd, reduceMul]
   | false =>
   cases h6 : x.kind == 6 with
   | true =>
     have heq2 : R = (ownB p f nm x && x.kids.all (fun kid => zT p f kid nm)) := heq
     have hown : ownB p f nm x = yD nm x.name := by
       have hk := eq_of_beq h6
       unfold ownB xj; rw [hk]; simp [inI]
     simp +decide only [h2, h3, h4, h5, h6, zb, za, zy, hpin, hpin2, go_sem, reduceAdd, reduceMul]
     cases hb : bad || !x.kids.all (fun kid => zT p f kid nm) with
     | true =>
       refine Tri.sched zf [(0, true), (1, false), (2, false), (3, false), (4, false), (5, false), (6, true), (7, true), (8, true), (10, true), (11, true), (9, false), (12, false), (13, false), (14, false), (15, false), (16, false), (17, false)] zV (by kernel_rfl) (fun C2 hC2 => ?_)
       have hp2 := zY hC2 hpin
       have hfin : (bad || !R) = true := by rw [heq2]; rw [Bool.or_eq_true] at hb |-; rcases hb with hb | hb; exact Or.inl hb; right; simp only [Bool.not_eq_true'] at hb |-; rw [hb, Bool.and_false]
       simp +decide only [hb, hfin, zb, za, zy, hp2, hpin, hpin2, go_sem, reduceAdd, reduceMul]
     | false =>
       refine Tri.sched zf [(0, true), (1, false), (2, false), (3, false), (4, false), (5, false), (6, true), (7, true), (8, true), (10, true), (11, true), (9, false), (12, false), (13, false), (14, false), (15, false), (16, false), (17, false)] zV (by kernel_rfl) (fun C2 hC2 => ?_)
       have hp2 := zY hC2 hpin
       obtain ⟨hb1, hb2⟩ := Bool.or_eq_false_iff.1 hb
       have hfin : (bad || !R) = !yD nm x.name := by
         rw [heq2, hb1, Bool.false_or]
         simp only [Bool.not_eq_false'] at hb2
         rw [hb2, Bool.and_true, hown]
       simp +decide only [hb, zb, za, zy, hp2, hpin, hpin2, go_sem, reduceAdd, reduceMul]
       refine zd hhas hp2 ?_
       simp +decide only [hfin, zb, za, zy, hp2, hpin, hpin2, go_sem, reduceAdd, reduceMul]
   | false =>
   have hu : xj x.kind = false := by
     unfold xj
     rw [v14, v15]
     have i2 : inI x.kind 2 6 = false := by
       apply Bool.eq_false_iff.2; intro hh
       have := zx hh
       have g2 : x.kind ≠ 2 := by simpa using h2
       have g3 : x.kind ≠ 3 := by simpa using h3
       have g4 : x.kind ≠ 4 := by simpa using h4
       have g5 : x.kind ≠ 5 := by simpa using h5
       have g6 : x.kind ≠ 6 := by simpa using h6
       omega
     rw [i2]; rfl
   unfold ownB at heq
   rw [hu, Bool.not_false, Bool.true_or, Bool.true_and] at heq
   cases h12 : x.kind == 12 with
   | false =>
     rw [h12, Bool.not_false, Bool.true_or, Bool.true_and] at heq
     simp +decide only [h2, h3, h4, h5, h6, h12, heq, zb, za, zy, hpin, hpin2, go_sem, reduceAdd, reduceMul]
   | true =>
   rw [h12, Bool.not_true, Bool.false_or] at heq
   simp +decide only [h2, h3, h4, h5, h6, h12, zb, za, zy, hpin, hpin2, go_sem, reduceAdd, reduceMul]
   refine Tri.sched zf [(0, true), (1, true), (2, true), (4, true), (5, true), (3, false), (6, false), (7, false)] zV (by kernel_rfl) (fun C2 hC2 => ?_)
   have hp2 := zY hC2 hpin
   simp +decide only [zb, za, zy, hp2, hpin, hpin2, go_sem, reduceAdd, reduceMul]
   refine zd hfa hp2 ?_
   unfold zjg at heq
   have hrg := ZZ x.name p.fns 0
   have hfe : xE p.fns x.name = zbr x.name p.fns 0 := rfl
   rw [<- hfe] at hrg
   generalize xE p.fns x.name = at_ at heq hrg |-
   simp +decide only [zb, za, zy, hp2, hpin, hpin2, go_sem, reduceAdd, reduceMul]
   refine Tri.sched zf [(0, true), (1, false), (2, false), (3, false), (4, false), (5, false), (6, false), (7, false), (8, false), (9, false), (10, true), (11, false), (12, false), (13, false), (14, false), (15, false), (16, false), (17, false), (18, true), (19, true), (20, true), (21, true), (23, true), (28, true), (29, true), (30, true), (22, false), (24, false), (25, false), (26, false), (27, false), (31, false), (32, false), (33, false), (34, false), (35, false)] zV (by kernel_rfl) (fun C3 hC3 => ?_)
   have hp3 := zY hC3 hpin
   cases hb : bad || !x.kids.all (fun kid => zT p f kid nm) with
   | true =>
     have hfin : (bad || !R) = true := by rw [heq]; rw [Bool.or_eq_true] at hb |-; rcases hb with hb | hb; exact Or.inl hb; right; simp only [Bool.not_eq_true'] at hb |-; rw [hb, Bool.and_false]
     rcases zea p.fns at_.toNat with ⟨y, hy⟩ | hy
     · simp +decide only [hb, hfin, hy, fnC, zb, za, zy, hp3, hpin, hpin2, go_sem, reduceAdd, reduceMul]
     · simp +decide only [hb, hfin, hy, zb, za, zy, hp3, hpin, hpin2, go_sem, reduceAdd, reduceMul]
   | false =>
     obtain ⟨hb1, hb2⟩ := Bool.or_eq_false_iff.1 hb
     simp only [Bool.not_eq_false'] at hb2
     rw [hb2, Bool.and_true] at heq
     rw [hb1, Bool.false_or]
     by_cases ha : at_ < 0
     · have c1 : (at_ < 0) = True := eq_true ha
       have g0 : inI at_ 0 ((f : Int) - 1) = false := by apply Bool.eq_false_iff.2; intro hh; have := zx hh; omega
       rw [g0, Bool.false_and] at heq
       rcases zea p.fns at_.toNat with ⟨y, hy⟩ | hy
       · simp +decide only [hb, c1, heq, hy, fnC, zb, za, zy, hp3, hpin, hpin2, go_sem, reduceAdd, reduceMul]
       · simp +decide only [hb, c1, heq, hy, zb, za, zy, hp3, hpin, hpin2, go_sem, reduceAdd, reduceMul]
     · have c1 : (at_ < 0) = False := eq_false ha
       obtain ⟨m, rfl⟩ : ∃ m : Nat, at_ = m := ⟨at_.toNat, by omega⟩
       have hml : m < p.fns.length := by rcases hrg with h | h <;> omega
       have hy : (rows (fnC true) p.fns).getD m [] = fnC true p.fns[m] := zh _ _ hml
       have hc2 : ((m : Int) < (p.fns.length : Int)) = True := eq_true (by omega)
       rw [yS hml] at heq
       generalize p.fns[m] = y at hy heq
       by_cases hge : (f : Int) <= (m : Int)
       · have c2 : ((f : Int) <= (m : Int)) = True := eq_true hge
         have g0 : inI (m : Int) 0 ((f : Int) - 1) = false := by apply Bool.eq_false_iff.2; intro hh; have := zx hh; omega
         rw [g0, Bool.false_and] at heq
         simp +decide only [hb, c1, c2, heq, hy, hc2, fnC, Int.natCast_nonneg, ge_iff_le, zb, za, zy, hp3, hpin, hpin2, go_sem, reduceAdd, reduceMul]
       · have c2 : ((f : Int) <= (m : Int)) = False := eq_false hge
         have g0 : inI (m : Int) 0 ((f : Int) - 1) = true := by simp only [inI, Bool.and_eq_true, decide_eq_true_eq]; omega
         rw [g0, Bool.true_and] at heq
         simp +decide only [hb, c1, c2, heq, hy, hc2, fnC, bne, Int.natCast_nonneg, ge_iff_le, zb, za, zy, hp3, hpin, hpin2, go_sem, reduceAdd, reduceMul]
theorem zfa (S : Int -> List ByteArray -> Bool) (nodes : List NodeD) : ∀ (l : List Int) (k : Int) (nm : List ByteArray), xY S nodes true nm (l ++ [k]) = (xY S nodes true nm l && S k (Zw nodes nm l))
 | [], k, nm => by simp [xY, Zw]
 | a :: r, k, nm => by
   simp only [List.cons_append, xY]
   rw [zfa S nodes r k, Bool.and_assoc]
   rfl
theorem zkP (S : Int -> List ByteArray -> Bool) (nodes : List NodeD) (nm : List ByteArray) {l : List Int} {i : Nat} (h : i < l.length) : xY S nodes true nm (l.take (i + 1)) = (xY S nodes true nm (l.take i) && S l[i] (Zw nodes nm (l.take i))) := by
 rw [List.take_succ_eq_append_getElem h, zfa]
theorem xP {nodes : List NodeD} {n : Nat} (hd : dAt nodes n ≠ 0) (hn : n < nodes.length) : inI nodes[n].kids.length (zG nodes[n].kind).1 (zG nodes[n].kind).2 = true := by
 have hb := Zn nodes n hd
 simp only [ZC, Bool.and_eq_true, Xc] at hb
 obtain ⟨_, _, hs, _⟩ := hb
 rwa [zF hn] at hs
def zpQ (nm : List ByteArray) (x : NodeD) : List ByteArray := if x.kind == 13 then nm ++ [x.name] else nm
def zmQ (p : ProgramD) (f n : Nat) : Prop := YT (nAt p.nodes n).kind = true -> ∀ (nm : List ByteArray) (bad : Bool), nm.length + 300 * n <= 4194304 ->
   SoundAt Tryz.prog 196 (fun uf => zp 0 [.ro (.bp 2000 0), .ro (.sc (.int .i64 n))]) [(2000, .box (zy p f nm bad))]
     (fun rs st => rs = [] /\ xK st.ob [(2000, .box (zy p f (zpQ nm (nAt p.nodes n)) (bad || !zT p f n nm)))])
def zgv (p : ProgramD) (f n : Nat) : Prop := (nAt p.nodes n).kind == 20 -> ∀ (nm : List ByteArray) (bad : Bool), nm.length + 300 * n <= 4194304 ->
   SoundAt Tryz.prog 166 (fun uf => zp 0 [.ro (.bp 2000 0), .ro (.sc (.int .i64 n))]) [(2000, .box (zy p f nm bad))]
     (fun rs st => rs = [] /\ xK st.ob [(2000, .box (zy p f (Zw p.nodes nm (nAt p.nodes n).kids) (bad || !zT p f n nm)))])
theorem zoe (p : ProgramD) (hD : Deep p.nodes) (f : Nat) (hk : ∀ x ∈ p.nodes, x.kids.length <= 300) (n : Nat) (hnl : n < p.nodes.length) (ih : ∀ m, m < n -> zmQ p f m) : zgv p f n := by
 intro h20 nm bad hnm
 rw [zF hnl] at h20 |-
 have hkid := hD.kid hnl
 have hkx := hk p.nodes[n] (List.getElem_mem hnl)
 have heq := zcF hD f hnl nm
 have hx : (rows (zg true) p.nodes).getD n [] = zg true p.nodes[n] := zh _ _ hnl
 have hrec : ∀ i (hi : i < p.nodes[n].kids.length), ∀ (L : List ByteArray) (b : Bool), L.length + 300 * p.nodes[n].kids[i].toNat <= 4194304 -> SoundAt Tryz.prog 196 (fun uf => zp 0 [.ro (.bp 2000 0), .ro (.sc (.int .i64 p.nodes[n].kids[i]))]) [(2000, .box (zy p f L b))]
     (fun rs st => rs = [] /\ xK st.ob [(2000, .box (zy p f (Xf p.nodes true L p.nodes[n].kids[i]) (b || !zT p f p.nodes[n].kids[i] L)))]) := fun i hi L b hL => by
   have hft := Zq (hD.deep n hnl) hnl hi
   unfold yC at hft
   rw [h20, if_pos rfl] at hft
   obtain ⟨q0, q1, q2⟩ := hkid p.nodes[n].kids[i] (List.getElem_mem hi)
   have e : p.nodes[n].kids[i] = (p.nodes[n].kids[i].toNat : Int) := by omega
   have := ih p.nodes[n].kids[i].toNat q2 (by rw [<- e]; exact hft) L b hL
   rw [<- e] at this
   exact this
 have hown : ownB p f nm p.nodes[n] = true := by
   have hk := eq_of_beq h20
   unfold ownB xj; rw [hk]; simp [inI]
 rw [hown, Bool.true_and, h20] at heq
 generalize zT p f n nm = R at heq |-
 have hc1 : ((n : Int) < (p.nodes.length : Int)) = True := eq_true (by omega)
 generalize p.nodes[n] = x at hkid hkx heq hx hrec
 refine zm (fn := Tryz.f166) (c := Tryz.f166.body.getD .skip) (res := []) (n := 33) zf (by kernel_rfl) (by rfl) (by kernel_rfl) (by rfl) (by rfl) (by simp [zp]) (fun uf ub C hpin hpin2 hfull => ?_)
 simp only [Tryz.f166, Option.getD_some]
 refine Tri.step zf ?_
 simp +decide only [zb, za, zy, hpin, hpin2, go_sem, reduceAdd, reduceMul]
 refine ze zf _ ?_
 simp +decide only [zb, za, zy, hpin, hpin2, go_sem, reduceAdd, reduceMul]
 refine Tri.loop (ι := Nat) (fun i => i <= x.kids.length) (fun i => ⟨33, [(0, .bp 2000 0), (1, vI n), (4, vI i)], [(2000, .box (zy p f (Zw p.nodes nm (x.kids.take i)) (bad || !xY (zT p f) p.nodes true nm (x.kids.take i))))]⟩) (fun i => x.kids.length - i) 0 (by simp) ?_ ?_
 · have e1 : Zw p.nodes nm [] = nm := rfl
   have e2 : (bad || !xY (zT p f) p.nodes true nm []) = bad := by simp [xY]
   refine Ent.weak ?_ ?_ ?_ ?_ <;> simp +decide [subT, subB, zk, zj, zl, St.get, look, vI, vB, vS, cI, cS, cB, zg, za, zy, roI, e1, e2]
   all_goals simp [xY]
 · rintro i hi
   refine ze zf _ ?_
   by_cases h' : i < x.kids.length
   · have e : ((i : Int) < (x.kids.length : Int)) = True := by simp [h']
     have hgl := Ym p.nodes (x.kids.take i) nm
     rw [List.length_take] at hgl
     obtain ⟨q0, q1, q2⟩ := hkid x.kids[i] (List.getElem_mem h')
     have hs := hrec i h' (Zw p.nodes nm (x.kids.take i)) (bad || !xY (zT p f) p.nodes true nm (x.kids.take i)) (by omega)
     have hnx : ((bad || !xY (zT p f) p.nodes true nm (x.kids.take i)) || !zT p f x.kids[i] (Zw p.nodes nm (x.kids.take i))) = (bad || !xY (zT p f) p.nodes true nm (x.kids.take (i + 1))) := by
       rw [zkP _ _ _ h']
       generalize xY (zT p f) p.nodes true nm (x.kids.take i) = A
       cases bad <;> cases A <;> rfl
     rw [hnx, <- zff p.nodes nm h'] at hs
     simp only [zy, cI, cB] at hs
     simp +decide only [e, h', hc1, hx, zq _ _ h', zg, Int.natCast_nonneg, vB, vI, zb, za, zy, hpin, hpin2, go_sem, reduceAdd, reduceMul]
     refine yJ hs hpin hfull [(2000, 2000)] [] [(2000, 2000)] ⟨rfl, rfl, rfl, rfl⟩ (fun uf => ?_) ?_
     · simp +decide only [zb, za, zy, hpin, hpin2, go_sem, reduceAdd, reduceMul]
     simp +decide only [zb, za, zy, hpin, hpin2, go_sem, reduceAdd, reduceMul]
     refine ⟨i + 1, h', by omega, Ent.weak ?_ ?_ ?_ ?_⟩
     all_goals simp +decide [subT, subB, zk, zj, zl, St.get, look, vI, vB, vS, cI, cS, cB, zg, za, zy, roI, w64s (n := x.kids.length) h' (by omega)]
   · have hil : i = x.kids.length := by omega
     subst hil
     have e : ((x.kids.length : Int) < (x.kids.length : Int)) = False := by simp
     simp +decide only [e, hc1, hx, heq, zg, Int.natCast_nonneg, vB, vI, zb, za, zy, hpin, hpin2, go_sem, reduceAdd, reduceMul]
theorem zoB (p : ProgramD) (hD : Deep p.nodes) (f : Nat) (hfl : f < p.fns.length) (hf : p.fns.length <= 1048576) (hn : p.nodes.length <= 1048576) (hk : ∀ x ∈ p.nodes, x.kids.length <= 300) (n : Nat) (hnl : n < p.nodes.length) (ih : ∀ m, m < n -> zgv p f m) : zmQ p f n := by
 intro hst nm bad hnm
 rw [zF hnl] at hst |-
 have hkid := hD.kid hnl
 have hkx := hk p.nodes[n] (List.getElem_mem hnl)
 have heq := zcF hD f hnl nm
 have hx : (rows (zg true) p.nodes).getD n [] = zg true p.nodes[n] := zh _ _ hnl
 have hsr := zx (show inI p.nodes[n].kind 13 19 = true from hst)
 have v20 : (p.nodes[n].kind == 20) = false := by apply Bool.eq_false_iff.2; intro hh; have := eq_of_beq hh; omega
 have v12 : (p.nodes[n].kind == 12) = false := by apply Bool.eq_false_iff.2; intro hh; have := eq_of_beq hh; omega
 have hsh := xP (hD.deep n hnl) hnl
 have hpos : 0 < p.nodes[n].kids.length := by
   have := zx hsh
   have h1 : 1 <= (zG p.nodes[n].kind).1 := by
     rcases (show p.nodes[n].kind = 13 \/ p.nodes[n].kind = 14 \/ p.nodes[n].kind = 15 \/ p.nodes[n].kind = 16 \/ p.nodes[n].kind = 17 \/ p.nodes[n].kind = 18 \/ p.nodes[n].kind = 19 by omega) with h | h | h | h | h | h | h <;> rw [h] <;> decide
   omega
 have hone : (p.nodes[n].kind == 16) = false -> (p.nodes[n].kind == 17) = false -> p.nodes[n].kids.length = 1 := fun h16 h17 => by
   have := zx hsh
   have g16 : p.nodes[n].kind ≠ 16 := by simpa using h16
   have g17 : p.nodes[n].kind ≠ 17 := by simpa using h17
   have h1 : (zG p.nodes[n].kind).2 = 1 := by
     rcases (show p.nodes[n].kind = 13 \/ p.nodes[n].kind = 14 \/ p.nodes[n].kind = 15 \/ p.nodes[n].kind = 18 \/ p.nodes[n].kind = 19 by omega) with h | h | h | h | h <;> rw [h] <;> decide
   omega
 have hval : ∀ b : Bool, SoundAt Tryz.prog 167 (fun uf => zp 0 [.ro (.bp 2000 0), .ro (.sc (.int .i64 p.nodes[n].kids[0]))]) [(2000, .box (zy p f nm b))]
     (fun rs st => rs = [] /\ xK st.ob [(2000, .box (zy p f nm (b || !zT p f p.nodes[n].kids[0] nm)))]) := fun b => by
   have hft := Zq (hD.deep n hnl) hnl hpos
   have hv2 : xw (nAt p.nodes p.nodes[n].kids[0]).kind = true := by
     unfold yC at hft
     have h00 : decide ((0 : Int) < ((0 : Nat) : Int)) = false := by decide
     rw [v20, if_neg (by decide), h00, Bool.and_false, if_neg (by decide)] at hft
     split at hft
     · have := eq_of_beq hft; rw [this]; decide
     · exact hft
   obtain ⟨q0, q1, q2⟩ := hkid p.nodes[n].kids[0] (List.getElem_mem hpos)
   have e : p.nodes[n].kids[0] = (p.nodes[n].kids[0].toNat : Int) := by omega
   have := zcP p hD f hfl hf hn hk nm (by omega) p.nodes[n].kids[0].toNat (by omega) (by rw [<- e]; exact hv2) b
   rw [<- e] at this
   exact this
 have hblk : ∀ i (hi : i < p.nodes[n].kids.length), 0 < i -> ((p.nodes[n].kind == 16) = true \/ (p.nodes[n].kind == 17) = true) -> ∀ b : Bool, SoundAt Tryz.prog 166 (fun uf => zp 0 [.ro (.bp 2000 0), .ro (.sc (.int .i64 p.nodes[n].kids[i]))]) [(2000, .box (zy p f nm b))]
     (fun rs st => rs = [] /\ xK st.ob [(2000, .box (zy p f (Zw p.nodes nm (nAt p.nodes p.nodes[n].kids[i]).kids) (b || !zT p f p.nodes[n].kids[i] nm)))]) := fun i hi hi0 h67 b => by
   have hft := Zq (hD.deep n hnl) hnl hi
   unfold yC at hft
   have h68 : (p.nodes[n].kind == 16 || p.nodes[n].kind == 17) = true := by rw [Bool.or_eq_true]; exact h67
   have hi1 : decide ((0 : Int) < (i : Int)) = true := decide_eq_true (by omega)
   rw [v20, if_neg (by decide), h68, hi1, Bool.true_and, if_pos rfl] at hft
   obtain ⟨q0, q1, q2⟩ := hkid p.nodes[n].kids[i] (List.getElem_mem hi)
   have e : p.nodes[n].kids[i] = (p.nodes[n].kids[i].toNat : Int) := by omega
   have := ih p.nodes[n].kids[i].toNat q2 (by rw [<- e]; exact hft) nm b (by omega)
   rw [<- e] at this
   exact this
 rw [v20, zaA] at heq
 unfold ownB at heq
 rw [v12, Bool.not_false, Bool.true_or, Bool.and_true] at heq
 generalize zT p f n nm = R at heq |-
 have hc1 : ((n : Int) < (p.nodes.length : Int)) = True := eq_true (by omega)
 have hc0 : ((0 : Int) < (p.nodes[n].kids.length : Int)) = True := eq_true (by omega)
 generalize p.nodes[n] = x at hkid hkx heq hx hsr v20 v12 hpos hone hval hblk hc0
 have hhas := zch nm x.name (by omega)
 have hv1 := hval bad
 have ht1 : (x.kids.take 1).all (fun kid => zT p f kid nm) = zT p f x.kids[0] nm := by
   have := zbC (f := fun kid => zT p f kid nm) hpos
   simpa using this
 have hone2 : (x.kind == 16) = false -> (x.kind == 17) = false -> x.kids.all (fun kid => zT p f kid nm) = zT p f x.kids[0] nm := fun h16 h17 => by
   have h1 := hone h16 h17
   rw [<- ht1, List.take_of_length_le (by omega)]
 have hg0 : (row1 cI x.kids).getD (Int.toNat 0) [] = [cI x.kids[0]] := zq cI x.kids hpos
 simp only [zy, cI, cB] at hv1
 simp only [cI] at hg0
 refine zm (fn := Tryz.f196) (c := Tryz.f196.body.getD .skip) (res := []) (n := 83) zf (by kernel_rfl) (by rfl) (by kernel_rfl) (by rfl) (by rfl) (by simp [zp]) (fun uf ub C hpin hpin2 hfull => ?_)
 simp only [Tryz.f196, Option.getD_some]
 refine Tri.last (fun s => St.shb s 2000) (fun s => Ent.shb hfull 2000) ?_
 refine Tri.step zf ?_
 simp +decide only [hc1, hx, zg, Int.natCast_nonneg, zb, za, zy, hpin, hpin2, go_sem, reduceAdd, reduceMul]
 refine Tri.ent ?_ (Ent.frb hfull 4)
 refine Tri.step zf ?_
 simp +decide only [hc0, hpos, hg0, zg, Int.natCast_nonneg, zb, za, zy, hpin, hpin2, go_sem, reduceAdd, reduceMul]
 refine yJ hv1 hpin hfull [(2000, 2000)] [] [(2000, 2000)] ⟨rfl, rfl, rfl, rfl⟩ (fun uf => ?_) ?_
 · simp +decide only [zb, za, zy, hpin, hpin2, go_sem, reduceAdd, reduceMul]
 simp +decide only [zg, zb, za, zy, hpin, hpin2, go_sem, reduceAdd, reduceMul]
 refine Tri.step zf ?_
 simp +decide only [zg, zb, za, zy, hpin, hpin2, go_sem, reduceAdd, reduceMul]
 refine ze zf _ ?_
 unfold zpQ
 cases h13 : x.kind == 13 with
 | true =>
   have hk := eq_of_beq h13
   have heq2 : R = zT p f x.kids[0] nm := by
     rw [heq, hone2 (by rw [hk]; rfl) (by rw [hk]; rfl)]
     unfold xj; rw [hk]; simp [inI]
   rw [heq2]
   simp +decide only [h13, zb, za, zy, hpin, hpin2, go_sem, reduceAdd, reduceMul]
   have hfr := zgH nm
   have hb1 : nm.length <= 140737488355328 := by omega
   have hb2 : nm.length * 16 <= 140737488355328 := by omega
   have hb3 : nm.length + 1 <= 140737488355328 := by omega
   have hb4 : (nm.length + 1) * 16 <= 140737488355328 := by omega
   have htk := yx cS nm
   have hsn := zaP nm x.name
   simp only [cS] at hsn
   refine Tri.fork zf (.one 0 true (.one 2 true (.one 3 true (.one 4 true (.one 7 true (.one 8 true (.three 1 (.two 5 (.two 6 (.one 9 false (.one 10 false (.one 11 false (.one 12 false (.one 13 false .done))))) 9 (.one 6 false (.one 10 false (.one 11 false (.one 12 false (.one 13 false .done)))))) 9 (.one 5 false (.one 6 false (.one 10 false (.one 11 false (.one 12 false (.one 13 false .done))))))) 5 (.two 1 (.two 6 (.one 9 false (.one 10 false (.one 11 false (.one 12 false (.one 13 false .done))))) 9 (.one 6 false (.one 10 false (.one 11 false (.one 12 false (.one 13 false .done)))))) 9 (.one 1 false (.one 6 false (.one 10 false (.one 11 false (.one 12 false (.one 13 false .done))))))) 9 (.two 1 (.one 5 false (.one 6 false (.one 10 false (.one 11 false (.one 12 false (.one 13 false .done)))))) 5 (.one 1 false (.one 6 false (.one 10 false (.one 11 false (.one 12 false (.one 13 false .done)))))))))))))) zV (by kernel_rfl) (fun C2 hC2 => ?_)
   have hp2 := zY hC2 hpin
   simp +decide only [hfr, hb1, hb2, hb3, hb4, htk, hsn, zb, za, zy, hp2, hpin, hpin2, go_sem, reduceAdd, reduceMul]
 | false =>
 cases h14 : x.kind == 14 with
 | true =>
   have heq2 : R = (yD nm x.name && zT p f x.kids[0] nm) := by
     have hk := eq_of_beq h14
     rw [heq, hone2 (by rw [hk]; rfl) (by rw [hk]; rfl)]
     unfold xj; rw [hk]; simp [inI]
   simp +decide only [h13, h14, zb, za, zy, hpin, hpin2, go_sem, reduceAdd, reduceMul]
   focus
     cases hb : bad || !zT p f x.kids[0] nm with
     | true =>
       refine Tri.sched zf [(0, true), (1, false), (2, false), (3, false), (4, false), (5, false), (6, true), (7, true), (8, true), (10, true), (11, true), (9, false), (12, false), (13, false), (14, false), (15, false), (16, false), (17, false)] zV (by kernel_rfl) (fun C2 hC2 => ?_)
       have hp2 := zY hC2 hpin
       have hfin : (bad || !R) = true := by rw [heq2]; rw [Bool.or_eq_true] at hb |-; rcases hb with hb | hb; exact Or.inl hb; right; simp only [Bool.not_eq_true'] at hb |-; rw [hb, Bool.and_false]
       simp +decide only [hb, hfin, zb, za, zy, hp2, hpin, hpin2, go_sem, reduceAdd, reduceMul]
     | false =>
       refine Tri.sched zf [(0, true), (1, false), (2, false), (3, false), (4, false), (5, false), (6, true), (7, true), (8, true), (10, true), (11, true), (9, false), (12, false), (13, false), (14, false), (15, false), (16, false), (17, false)] zV (by kernel_rfl) (fun C2 hC2 => ?_)
       have hp2 := zY hC2 hpin
       obtain ⟨hb1, hb2⟩ := Bool.or_eq_false_iff.1 hb
       have hfin : (bad || !R) = !yD nm x.name := by
         rw [heq2, hb1, Bool.false_or]
         simp only [Bool.not_eq_false'] at hb2
         rw [hb2, Bool.and_true]
       simp +decide only [hb, zb, za, zy, hp2, hpin, hpin2, go_sem, reduceAdd, reduceMul]
       refine zd hhas hp2 ?_
       simp +decide only [hfin, zb, za, zy, hp2, hpin, hpin2, go_sem, reduceAdd, reduceMul]
 | false =>
 cases h15 : x.kind == 15 with
 | true =>
   have heq2 : R = (yD nm x.name && zT p f x.kids[0] nm) := by
     have hk := eq_of_beq h15
     rw [heq, hone2 (by rw [hk]; rfl) (by rw [hk]; rfl)]
     unfold xj; rw [hk]; simp [inI]
   simp +decide only [h13, h14, h15, zb, za, zy, hpin, hpin2, go_sem, reduceAdd, reduceMul]
   focus
     cases hb : bad || !zT p f x.kids[0] nm with
     | true =>
       refine Tri.sched zf [(0, true), (1, false), (2, false), (3, false), (4, false), (5, false), (6, true), (7, true), (8, true), (10, true), (11, true), (9, false), (12, false), (13, false), (14, false), (15, false), (16, false), (17, false)] zV (by kernel_rfl) (fun C2 hC2 => ?_)
       have hp2 := zY hC2 hpin
       have hfin : (bad || !R) = true := by rw [heq2]; rw [Bool.or_eq_true] at hb |-; rcases hb with hb | hb; exact Or.inl hb; right; simp only [Bool.not_eq_true'] at hb |-; rw [hb, Bool.and_false]
       simp +decide only [hb, hfin, zb, za, zy, hp2, hpin, hpin2, go_sem, reduceAdd, reduceMul]
     | false =>
       refine Tri.sched zf [(0, true), (1, false), (2, false), (3, false), (4, false), (5, false), (6, true), (7, true), (8, true), (10, true), (11, true), (9, false), (12, false), (13, false), (14, false), (15, false), (16, false), (17, false)] zV (by kernel_rfl) (fun C2 hC2 => ?_)
       have hp2 := zY hC2 hpin
       obtain ⟨hb1, hb2⟩ := Bool.or_eq_false_iff.1 hb
       have hfin : (bad || !R) = !yD nm x.name := by
         rw [heq2, hb1, Bool.false_or]
         simp only [Bool.not_eq_false'] at hb2
         rw [hb2, Bool.and_true]
       simp +decide only [hb, zb, za, zy, hp2, hpin, hpin2, go_sem, reduceAdd, reduceMul]
       refine zd hhas hp2 ?_
       simp +decide only [hfin, zb, za, zy, hp2, hpin, hpin2, go_sem, reduceAdd, reduceMul]
 | false =>
 have hu : xj x.kind = false := by
   unfold xj
   rw [h14, h15]
   have i2 : inI x.kind 2 6 = false := by
     apply Bool.eq_false_iff.2; intro hh
     have := zx hh
     omega
   rw [i2]; rfl
 rw [hu, Bool.not_false, Bool.true_or, Bool.true_and] at heq
 have hloop : ((x.kind == 16) = true \/ (x.kind == 17) = true) -> ∀ i (hi : i < x.kids.length), 0 < i -> SoundAt Tryz.prog 166 (fun uf => zp 0 [.ro (.bp 2000 0), .ro (.sc (.int .i64 x.kids[i]))]) [(2000, .box (zy p f nm (bad || !(x.kids.take i).all (fun kid => zT p f kid nm))))]
     (fun rs st => rs = [] /\ xK st.ob [(2000, .box (zy p f (Zw p.nodes nm (nAt p.nodes x.kids[i]).kids) (bad || !(x.kids.take (i + 1)).all (fun kid => zT p f kid nm))))]) := fun h67 i hi hi0 => by
   have hs := hblk i hi hi0 h67 (bad || !(x.kids.take i).all (fun kid => zT p f kid nm))
   have hnx : ((bad || !(x.kids.take i).all (fun kid => zT p f kid nm)) || !zT p f x.kids[i] nm) = (bad || !(x.kids.take (i + 1)).all (fun kid => zT p f kid nm)) := by
     rw [zbC hi]
     generalize (x.kids.take i).all (fun kid => zT p f kid nm) = A
     cases bad <;> cases A <;> rfl
   rw [hnx] at hs
   exact hs
 simp only [zy, cI, cB] at hloop
 cases h16 : x.kind == 16 with
 | true =>
   have h67 : (x.kind == 16) = true \/ (x.kind == 17) = true := by simp [h16]
   simp +decide only [h13, h14, h15, h16, zb, za, zy, hpin, hpin2, go_sem, reduceAdd, reduceMul]
   refine Tri.loop (ι := Nat) (fun i => 0 < i /\ i <= x.kids.length) (fun i => ⟨83, [(0, .bp 2000 0), (4, .ip (zg true x) 0), (5, vI i)], [(2000, .box (zy p f nm (bad || !(x.kids.take i).all (fun kid => zT p f kid nm))))]⟩) (fun i => x.kids.length - i) 1 ⟨by omega, by omega⟩ ?_ ?_
   · refine Ent.weak ?_ ?_ ?_ ?_ <;> simp +decide [ht1, subT, subB, zk, zj, zl, St.get, look, vI, vB, vS, cI, cS, cB, zg, za, zy, roI]
   · rintro i ⟨hi0, hi⟩
     refine ze zf _ ?_
     by_cases h' : i < x.kids.length
     · have e : ((i : Int) < (x.kids.length : Int)) = True := by simp [h']
       have hs := hloop h67 i h' hi0
       simp +decide only [e, h', zq _ _ h', zg, Int.natCast_nonneg, vB, vI, zb, za, zy, hpin, hpin2, go_sem, reduceAdd, reduceMul]
       refine yJ hs hpin hfull [(2000, 2000)] [] [(2000, 2000)] ⟨rfl, rfl, rfl, rfl⟩ (fun uf => ?_) ?_
       · simp +decide only [zb, za, zy, hpin, hpin2, go_sem, reduceAdd, reduceMul]
       simp +decide only [zb, za, zy, hpin, hpin2, go_sem, reduceAdd, reduceMul]
       refine ⟨i + 1, ⟨by omega, h'⟩, by omega, Ent.weak ?_ ?_ ?_ ?_⟩
       all_goals simp +decide [subT, subB, zk, zj, zl, St.get, look, vI, vB, vS, cI, cS, cB, zg, za, zy, roI, w64s (n := x.kids.length) h' (by omega)]
     · have hil : i = x.kids.length := by omega
       subst hil
       have e : ((x.kids.length : Int) < (x.kids.length : Int)) = False := by simp
       simp +decide only [e, heq, zg, Int.natCast_nonneg, vB, vI, zb, za, zy, hpin, hpin2, go_sem, reduceAdd, reduceMul]
 | false =>
 cases h17 : x.kind == 17 with
 | true =>
   have h67 : (x.kind == 16) = true \/ (x.kind == 17) = true := by simp [h17]
   simp +decide only [h13, h14, h15, h16, h17, zb, za, zy, hpin, hpin2, go_sem, reduceAdd, reduceMul]
   refine Tri.loop (ι := Nat) (fun i => 0 < i /\ i <= x.kids.length) (fun i => ⟨83, [(0, .bp 2000 0), (4, .ip (zg true x) 0), (5, vI i)], [(2000, .box (zy p f nm (bad || !(x.kids.take i).all (fun kid => zT p f kid nm))))]⟩) (fun i => x.kids.length - i) 1 ⟨by omega, by omega⟩ ?_ ?_
   · refine Ent.weak ?_ ?_ ?_ ?_ <;> simp +decide [ht1, subT, subB, zk, zj, zl, St.get, look, vI, vB, vS, cI, cS, cB, zg, za, zy, roI]
   · rintro i ⟨hi0, hi⟩
     refine ze zf _ ?_
     by_cases h' : i < x.kids.length
     · have e : ((i : Int) < (x.kids.length : Int)) = True := by simp [h']
       have hs := hloop h67 i h' hi0
       simp +decide only [e, h', zq _ _ h', zg, Int.natCast_nonneg, vB, vI, zb, za, zy, hpin, hpin2, go_sem, reduceAdd, reduceMul]
       refine yJ hs hpin hfull [(2000, 2000)] [] [(2000, 2000)] ⟨rfl, rfl, rfl, rfl⟩ (fun uf => ?_) ?_
       · simp +decide only [zb, za, zy, hpin, hpin2, go_sem, reduceAdd, reduceMul]
       simp +decide only [zb, za, zy, hpin, hpin2, go_sem, reduceAdd, reduceMul]
       refine ⟨i + 1, ⟨by omega, h'⟩, by omega, Ent.weak ?_ ?_ ?_ ?_⟩
       all_goals simp +decide [subT, subB, zk, zj, zl, St.get, look, vI, vB, vS, cI, cS, cB, zg, za, zy, roI, w64s (n := x.kids.length) h' (by omega)]
     · have hil : i = x.kids.length := by omega
       subst hil
       have e : ((x.kids.length : Int) < (x.kids.length : Int)) = False := by simp
       simp +decide only [e, heq, zg, Int.natCast_nonneg, vB, vI, zb, za, zy, hpin, hpin2, go_sem, reduceAdd, reduceMul]
 | false =>
 have hfin := hone2 h16 h17
 rw [hfin] at heq
 simp +decide only [h13, h14, h15, h16, h17, heq, zb, za, zy, hpin, hpin2, go_sem, reduceAdd, reduceMul]
theorem znB (p : ProgramD) (hD : Deep p.nodes) (f : Nat) (hfl : f < p.fns.length) (hf : p.fns.length <= 1048576) (hn : p.nodes.length <= 1048576) (hk : ∀ x ∈ p.nodes, x.kids.length <= 300) (n : Nat) : n < p.nodes.length -> zmQ p f n /\ zgv p f n := by
 induction n using Nat.strongRecOn with
 | ind n ih =>
 intro hnl
 exact ⟨zoB p hD f hfl hf hn hk n hnl (fun m hm => (ih m hm (by omega)).2), zoe p hD f hk n hnl (fun m hm => (ih m hm (by omega)).1)⟩
def St.nilr (st : St) (o j : Nat) (e : TypeId) : St := match look st.ob o with
 | some (.box cs) => (match cs[j]? with
   | some (.sc (.slice none 0 0)) => st.swap o (.box (cs.set j (.row false e [])))
   | _ => st)
 | _ => st
section
variable {P : Program} {w w1 : World} {C : Cx} {X : Nat -> Prop} {gh gh1 : Gh} {st : St} {a : Act} {v : V} {u : Value} {ob : List (Nat × Ob)} {S : Nat -> Prop} {K : St -> Prop}
theorem Ow.nilr {e : TypeId} {F : Nat -> Prop} (h : Ow P w S (.sc (.slice none 0 0)) u F) : Ow P w S (.row false e []) u F := by
 cases h with
 | sc h =>
   have h1 : Ow P w S (.row false e []) (.slice none 0 0) (fun k => (Value.slice none 0 0).ownBlock = some k \/ ∃ i j d, cellAt ([] : List (List D)) i j = some d /\ (fun _ _ _ => False : Nat -> Nat -> Nat -> Prop) i j k) :=
     Ow.row [] (fun _ _ _ => False) (World.ownsRow_nil w _ e _) (fun l hl => by simp at hl) (fun u hu => by simp at hu) (fun i j d hd => by simp [cellAt] at hd) (fun _ _ _ _ _ _ _ _ _ hh => hh.elim) (fun _ _ _ _ _ hh => hh.elim)
   refine h1.congr (fun k => ?_)
   constructor
   · rintro (hh | ⟨i, j, d, hd, hh⟩)
     · simp [Value.ownBlock] at hh
     · exact hh
   · exact fun hh => hh.elim
theorem Ent.nilr (o j : Nat) (e : TypeId) : Ent P C st (st.nilr o j e) := fun a w gh h => by
 unfold St.nilr
 split
 case h_2 => exact ⟨gh, h⟩
 rename_i cs ho
 split
 case h_2 => exact ⟨gh, h⟩
 rename_i hj
 have hbF : gh.F o (gh.bb o) := by cases h.obs o _ ho with | box xs G hb hl h1 hc hx dis nb hF => exact (hF _).2 (Or.inl rfl)
 refine ⟨_, h.swap (F := gh.F o) ho (by simp [Ob.like]) (Nat.le_refl _) (fun _ _ _ _ _ _ => rfl) (fun _ _ => rfl) (World.keptBut_refl w _) ?_ (fun k hk => Or.inl hk) (fun k hk => ⟨Or.inr hk, h.xF o _ k ho hk⟩) (fun cs' k _ hk he => h.xF o _ k ho hk (he ▸ hbF))⟩
 have hob := h.obs o _ ho
 have g1 : (gh.upd o (gh.hv o) (gh.bb o) (gh.bo o) (gh.F o)).F o = gh.F o := by simp [Gh.upd]
 have g2 : (gh.upd o (gh.hv o) (gh.bb o) (gh.bo o) (gh.F o)).bb o = gh.bb o := by simp [Gh.upd]
 have g3 : (gh.upd o (gh.hv o) (gh.bb o) (gh.bo o) (gh.F o)).bo o = gh.bo o := by simp [Gh.upd]
 cases hob with
 | box xs G hb hl h1 hc hx dis nb hF =>
   have back : ∀ q d, (cs.set j (.row false e []))[q]? = some d -> ∃ d0, cs[q]? = some d0 := fun q d hd => by
     rw [List.getElem?_set] at hd
     split at hd
     · rename_i ejq; subst ejq; exact ⟨_, hj⟩
     · exact ⟨d, hd⟩
   refine ObR.box xs G (by rw [g2]; exact hb) (by rw [List.length_set]; exact hl) h1 (by rw [g2, g3]; exact hc) (fun q d hd => ?_) (fun q q' d d' k hd hd' => ?_) (fun q d k hd hk => ?_) (fun k => ?_)
   · rw [List.getElem?_set] at hd
     split at hd
     · rename_i ejq
       subst ejq
       split at hd
       · cases hd; exact (hx j _ hj).nilr
       · cases hd
     · exact hx q d hd
   · obtain ⟨d0, h0⟩ := back _ _ hd
     obtain ⟨d1, h2⟩ := back _ _ hd'
     exact dis q q' d0 d1 k h0 h2
   · obtain ⟨d0, h0⟩ := back _ _ hd
     rw [g2]; exact nb q d0 k h0 hk
   · rw [g1, g2, hF k]
     constructor
     · rintro (hh | ⟨q, d, hd, hk⟩)
       · exact Or.inl hh
       · right
         by_cases eq : j = q
         · subst eq
           exact ⟨j, .row false e [], by rw [List.getElem?_set_self (List.getElem?_eq_some_iff.1 hd).1], hk⟩
         · exact ⟨q, d, by rw [List.getElem?_set_ne eq]; exact hd, hk⟩
     · rintro (hh | ⟨q, d, hd, hk⟩)
       · exact Or.inl hh
       · obtain ⟨d0, h0⟩ := back _ _ hd
         exact Or.inr ⟨q, d0, h0, hk⟩
end
attribute [go_sem] St.nilr
theorem Yw (p : ProgramD) (hf : p.fns.length <= 1048576) (hn : p.nodes.length <= 1048576) (hk : ∀ x ∈ p.nodes, x.kids.length <= 1048576) (hpl : ∀ f ∈ p.fns, f.params.length <= 1048576) : zu Tryz.prog 105 [.ro (zb p)] (fun rs st => rs = [(false, [cB (yi p)])]) := by
 have hps := zeA p hf hn hk hpl
 have hvs := fun fn => zcN p fn hf hn hk hpl
 have hvl := fun fn => xO p fn hpl hn
 simp only [zb] at hps hvs
 unfold yi
 refine zm (fn := Tryz.f105) (c := Tryz.f105.body.getD .skip) (res := [.tm 2]) (n := 97) zf (by kernel_rfl) (by rfl) (by kernel_rfl) (by rfl) (by rfl) (by simp [zp]) (fun uf ub C hpin hpin2 hfull => ?_)
 simp only [Tryz.f105, Option.getD_some]
 refine Tri.step zf ?_
 simp +decide only [zb, za, zy, hpin, go_sem, reduceAdd, reduceMul]
 refine Tri.ent ?_ (Ent.frb hfull 1)
 refine Tri.step zf ?_
 simp +decide only [zb, za, zy, hpin, go_sem, reduceAdd, reduceMul]
 refine zd hps hpin ?_
 cases h0 : xG p with
 | false => simp +decide only [zb, za, zy, hpin, go_sem, reduceAdd, reduceMul]
 | true =>
 have hG := yh h0
 simp +decide only [zb, za, zy, hpin, go_sem, reduceAdd, reduceMul]
 refine Tri.step zf ?_
 simp +decide only [zb, za, zy, hpin, go_sem, reduceAdd, reduceMul]
 refine Tri.loop (ι := Nat) (fun i => i <= p.fns.length /\ zJ (xa p) i = true) (fun i => ⟨97, [(1, .ip (za true p) 0), (2, vB false), (3, vI i)], []⟩) (fun i => p.fns.length - i) 0 ⟨by simp, rfl⟩ ?_ ?_
 · refine Ent.weak ?_ ?_ ?_ ?_ <;> simp +decide [subT, subB, zk, zj, zl, St.get, look, vI, vB, vS, cI, cS, cB, zg, za, zy, roI]
 · rintro i ⟨hi, hq⟩
   refine ze zf _ ?_
   by_cases h' : i < p.fns.length
   · have e : ((i : Int) < (p.fns.length : Int)) = True := by simp [h']
     have hx : (rows (fnC true) p.fns).getD i [] = fnC true p.fns[i] := zh _ _ h'
     have hok := hG.fn i h'
     have hfe : xa p i = (zdI p i && (zT p i p.fns[i].body (parN p.fns[i].params) && (decide (p.fns[i].ret < 0) || zT p i p.fns[i].ret (Zw p.nodes (parN p.fns[i].params) (nAt p.nodes p.fns[i].body).kids)))) := by unfold xa; rw [yS h']
     have hplx := hpl p.fns[i] (List.getElem_mem h')
     have hp3 := zec hok
     obtain ⟨⟨b0, b1⟩, hret⟩ := xT hok
     have hbk : (nAt p.nodes p.fns[i].body).kind == 20 := by
       simp only [YV, Bool.and_eq_true, zaD] at hok
       exact hok.2.2.2.2.1.2
     have hrk : ¬ p.fns[i].ret < 0 -> xw (nAt p.nodes p.fns[i].ret).kind = true := fun hnr => by
       simp only [YV, Bool.and_eq_true] at hok
       have hr := hok.2.2.2.2.2
       unfold zhG at hr
       split at hr
       · have := eq_of_beq hr; omega
       · exact (Bool.and_eq_true_iff.1 hr).2
     generalize p.fns[i] = g at hx hok hfe hplx hp3 b0 b1 hret hbk hrk
     have hvs1 := hvs i
     have hvl1 := hvl i
     unfold zdI at hfe
     simp +decide only [e, Int.natCast_nonneg, za, vB, vI, zb, za, zy, hpin, go_sem, reduceAdd, reduceMul]
     refine zd hvs1 hpin ?_
     generalize xq p i = l at hvl1 hfe |-
     have hva := fun s => Xj l s (by omega)
     have htl := yq (varC false) l
     have htl2 := yq (varC true) l
     simp +decide only [zb, za, zy, hpin, go_sem, reduceAdd, reduceMul]
     refine Tri.loop (ι := Nat) (fun j => j <= l.length /\ zJ (zeD l) j = true) (fun j => ⟨97, [(1, .ip (za true p) 0), (2, vB false), (3, vI i), (4, .ref 4 [] l.length), (5, vI j)], [(4, .row 96 (rows (varC false) l))]⟩) (fun j => l.length - j) 0 ⟨by simp, rfl⟩ ?_ ?_
     · refine Ent.weak ?_ ?_ ?_ ?_ <;> simp +decide [subT, subB, zk, zj, zl, St.get, look, vI, vB, vS, cI, cS, cB, zg, za, zy, roI]
     · rintro j ⟨hj, hq2⟩
       refine ze zf _ ?_
       by_cases hj' : j < l.length
       · have e2 : ((j : Int) < (l.length : Int)) = True := by simp [hj']
         have hov : zeD l j = (yp l l[j].name == (j : Int)) := by simp [zeD, List.getD, hj']
         simp +decide only [e2, hj', Xr _ _ hj', zh _ _ hj', varC, htl, htl2, Int.natCast_nonneg, vB, vI, zb, za, zy, hpin, go_sem, reduceAdd, reduceMul]
         refine zd (hva l[j].name) hpin ?_
         cases hz : yp l l[j].name == (j : Int) with
         | false =>
           have hff : zJ (zeD l) l.length = false := zw hj' (by rw [hov, hz])
           rw [hff, Bool.false_and] at hfe
           have hff2 : zJ (xa p) p.fns.length = false := zw h' hfe
           simp +decide only [hz, hff2, bne, htl, htl2, zb, za, zy, hpin, go_sem, reduceAdd, reduceMul]
         | true =>
           simp +decide only [hz, bne, htl, htl2, zb, za, zy, hpin, go_sem, reduceAdd, reduceMul]
           refine ⟨j + 1, ⟨hj', by rw [zN, hq2, hov, hz]; rfl⟩, by omega, Ent.weak ?_ ?_ ?_ ?_⟩
           all_goals simp +decide [subT, subB, zk, zj, zl, St.get, look, vI, vB, vS, cI, cS, cB, zg, za, zy, roI, w64s (n := l.length) hj' (by omega)]
       · have hjl : j = l.length := by omega
         subst hjl
         have e2 : ((l.length : Int) < (l.length : Int)) = False := by simp
         rw [hq2, Bool.true_and] at hfe
         simp +decide only [e2, vB, vI, zb, za, zy, hpin, go_sem, reduceAdd, reduceMul]
         refine Tri.ent ?_ (Ent.nilr 39 3 9)
         simp +decide only [zb, za, zy, hpin, go_sem, reduceAdd, reduceMul]
         refine Tri.last (fun s => St.shb s 39) (fun s => Ent.shb hfull 39) ?_
         refine Tri.loop (ι := Nat) (fun j => j <= g.params.length) (fun j => ⟨97, [(1, .ip (za true p) 0), (2, vB false), (3, vI i), (6, .bp 39 0), (7, vI j)], [(39, .box [.row true 83 (rows (zg true) p.nodes), .row true 104 (rows (fnC true) p.fns), cI i, .row false 9 (row1 cS (parN (g.params.take j))), cB false])]⟩) (fun j => g.params.length - j) 0 (by simp) ?_ ?_
         · refine Ent.weak ?_ ?_ ?_ ?_ <;> simp +decide [subT, subB, zk, zj, zl, St.get, look, vI, vB, vS, cI, cS, cB, zg, za, zy, roI, parN, row1]
         · rintro j hj
           refine ze zf _ ?_
           by_cases hj' : j < g.params.length
           · have e3 : ((j : Int) < (g.params.length : Int)) = True := by simp [hj']
             have hy : (rows (zr true) g.params).getD j [] = zr true g.params[j] := zh _ _ hj'
             have hsn := zhi hj'
             have hll : (parN (g.params.take j)).length <= 3 := by rw [xn, List.length_take]; omega
             have hl2 : (parN (g.params.take (j + 1))).length = (parN (g.params.take j)).length + 1 := by rw [xn, xn, List.length_take, List.length_take]; omega
             have htk := yx cS (parN (g.params.take j))
             have hb1 : (parN (g.params.take j)).length + 1 <= 140737488355328 := by omega
             have hb2 : ((parN (g.params.take j)).length + 1) * 16 <= 140737488355328 := by omega
             simp only [cS] at hsn
             simp +decide only [e, e3, hx, fnC, Int.natCast_nonneg, vB, vI, zb, za, zy, hpin, go_sem, reduceAdd, reduceMul]
             refine Tri.fork zf (.one 0 true (.one 1 true (.one 2 true (.one 3 true (.one 5 true (.one 7 true (.one 11 true (.one 6 true (.one 8 true (.one 9 true (.one 10 true (.one 12 true (.one 13 true (.one 14 true (.two 4 (.one 15 false (.one 16 false (.one 17 false (.one 18 false (.one 19 false .done))))) 15 (.one 4 false (.one 16 false (.one 17 false (.one 18 false (.one 19 false .done)))))))))))))))))))) zV (by kernel_rfl) (fun C2 hC2 => ?_)
             have hp2 := zY hC2 hpin
             simp +decide only [e, e3, hx, hy, zr, fnC, htk, hsn, hb1, hb2, hl2, Int.natCast_nonneg, vB, vI, zb, za, zy, hp2, hpin, go_sem, reduceAdd, reduceMul]
             refine ⟨?_, ?_⟩ <;> refine ⟨j + 1, hj', by omega, Ent.weak ?_ ?_ ?_ ?_⟩
             all_goals simp +decide [subT, subB, zk, zj, zl, St.get, look, vI, vB, vS, cI, cS, cB, zg, za, zy, roI, hl2, w64s (n := g.params.length) hj' (by omega)]
           · have hjl : j = g.params.length := by omega
             subst hjl
             have e3 : ((g.params.length : Int) < (g.params.length : Int)) = False := by simp
             have hnl : (parN g.params).length <= 3 := by rw [xn]; omega
             obtain ⟨b, hbb⟩ : ∃ b : Nat, g.body = b := ⟨g.body.toNat, by omega⟩
             have hbl : b < p.nodes.length := by omega
             have hk3 : ∀ x ∈ p.nodes, x.kids.length <= 300 := fun x hx => by have := hG.deep.few x hx; omega
             have hkf := hG.deep.few p.nodes[b] (List.getElem_mem hbl)
             have hfew := hG.few
             have hblk := (znB p hG.deep i h' hf hn hk3 b hbl).2
             unfold zgv at hblk
             rw [hbb] at hbk hfe
             have hgl := Ym p.nodes (nAt p.nodes b).kids (parN g.params)
             rw [zF hbl] at hgl
             have hs1 := hblk hbk (parN g.params) false (by omega)
             rw [zF hbl] at hs1 hfe
             generalize hnm : parN g.params = nm0 at hnl hfe hgl hs1 |-
             generalize Zw p.nodes nm0 p.nodes[b].kids = L at hfe hgl hs1
             have hvs := fun r hr hv => zcP p hG.deep i h' hf hn hk3 L (by omega) r hr hv (false || !zT p i b nm0)
             generalize zT p i b nm0 = B1 at hfe hs1 hvs
             simp only [zy, cI, cB, Bool.false_or] at hs1 hvs
             simp +decide only [e, e3, hx, fnC, hbb, hnm, Int.natCast_nonneg, vB, vI, zb, za, zy, hpin, go_sem, reduceAdd, reduceMul]
             refine yJ hs1 hpin hfull [(2000, 39)] [] [(2000, 39)] ⟨rfl, rfl, rfl, rfl⟩ (fun uf => ?_) ?_
             · simp +decide only [zb, za, zy, hpin, go_sem, reduceAdd, reduceMul]
             rcases hret with hneg | ⟨x0, x1⟩
             · have y0 : (0 <= g.ret) = False := eq_false (by omega)
               have y1 : decide (g.ret < 0) = true := decide_eq_true hneg
               rw [y1, Bool.true_or, Bool.and_true] at hfe
               simp +decide only [e, hx, fnC, y0, Int.natCast_nonneg, zb, za, zy, hpin, go_sem, reduceAdd, reduceMul]
               cases B1 with
               | false =>
                 have hff : zJ (xa p) p.fns.length = false := zw h' hfe
                 simp +decide only [hff, zb, za, zy, hpin, go_sem, reduceAdd, reduceMul]
               | true =>
                 simp +decide only [zb, za, zy, hpin, go_sem, reduceAdd, reduceMul]
                 refine ⟨i + 1, ⟨h', by rw [zN, hq, hfe]; rfl⟩, by omega, Ent.weak ?_ ?_ ?_ ?_⟩
                 all_goals simp +decide [subT, subB, zk, zj, zl, St.get, look, vI, vB, vS, cI, cS, cB, zg, za, zy, roI, w64s (n := p.fns.length) h' (by omega)]
             · have y0 : (0 <= g.ret) = True := eq_true x0
               have y1 : decide (g.ret < 0) = false := decide_eq_false (by omega)
               rw [y1, Bool.false_or] at hfe
               obtain ⟨r, hrr⟩ : ∃ r : Nat, g.ret = r := ⟨g.ret.toNat, by omega⟩
               have hrl : r < p.nodes.length := by omega
               have hrk2 := hrk (by omega)
               rw [hrr] at hfe hrk2
               have hs2 := hvs r hrl hrk2
               generalize zT p i r L = B2 at hfe hs2
               simp +decide only [e, hx, fnC, y0, hrr, Int.natCast_nonneg, zb, za, zy, hpin, go_sem, reduceAdd, reduceMul]
               refine yJ hs2 hpin hfull [(2000, 39)] [] [(2000, 39)] ⟨rfl, rfl, rfl, rfl⟩ (fun uf => ?_) ?_
               · simp +decide only [zb, za, zy, hpin, go_sem, reduceAdd, reduceMul]
               have hB : (!B1 || !B2) = !(B1 && B2) := by cases B1 <;> cases B2 <;> rfl
               rw [hB]
               generalize (B1 && B2) = B3 at hfe |-
               cases B3 with
               | false =>
                 have hff : zJ (xa p) p.fns.length = false := zw h' hfe
                 simp +decide only [hff, zb, za, zy, hpin, go_sem, reduceAdd, reduceMul]
               | true =>
                 simp +decide only [zb, za, zy, hpin, go_sem, reduceAdd, reduceMul]
                 refine ⟨i + 1, ⟨h', by rw [zN, hq, hfe]; rfl⟩, by omega, Ent.weak ?_ ?_ ?_ ?_⟩
                 all_goals simp +decide [subT, subB, zk, zj, zl, St.get, look, vI, vB, vS, cI, cS, cB, zg, za, zy, roI, w64s (n := p.fns.length) h' (by omega)]
   · have hil : i = p.fns.length := by omega
     subst hil
     have e : ((p.fns.length : Int) < (p.fns.length : Int)) = False := by simp
     simp +decide only [e, vB, vI, zb, za, zy, hpin, go_sem, reduceAdd, reduceMul]
     refine ze zf _ ?_
     simp +decide only [hq, zb, za, zy, hpin, go_sem, reduceAdd, reduceMul]
theorem zez {p : ProgramD} (h : zE p <= 1048576) : ∀ f ∈ p.fns, f.params.length <= 1048576 := by
 unfold zE at h
 intro f hf
 obtain ⟨i, hi, rfl⟩ := List.getElem_of_mem hf
 have h1 := ZB yb hi
 have h3 : p.fns[i].params.length <= yb p.fns[i] := by unfold yb; omega
 omega
def vAt (l : List VarD) (j : Int) : VarD := l.getD j.toNat vr0
def XY (l : List VarD) (s : ByteArray) : Int := if yp l s < 0 then 0 else (vAt l (yp l s)).ty
def zhE (t : Int) : Bool := t == 2 || (t == 3 || t == 4)
def prTy (ps : List ParamD) (i : Nat) : Int := (ps.map (fun x => x.ty)).getD i 0
def YE (T : Int -> Int) (p : ProgramD) (x : NodeD) : Bool :=
 decide (0 <= xE p.fns x.name) && (((fAt p.fns (xE p.fns x.name)).params.length : Int) == (x.kids.length : Int) && zJ (fun i => T (x.kids.getD i 0) == prTy (fAt p.fns (xE p.fns x.name)).params i) x.kids.length)
def zih (T : Int -> Int) (p : ProgramD) (l : List VarD) (x : NodeD) : Int :=
 if x.kind == 1 || x.kind == 7 then 1
 else if x.kind == 2 then XY l x.name
 else if x.kind == 3 then (if zhE (XY l x.name) then 1 else 0)
 else if x.kind == 4 then (if zhE (XY l x.name) then 2 else 0)
 else if x.kind == 5 then (if XY l x.name == 2 then 3 else 0)
 else if x.kind == 6 then (if XY l x.name == 2 then 4 else 0)
 else if x.kind == 8 then (if T (x.kids.getD 0 0) == 1 then 2 else 0)
 else if x.kind == 9 || (x.kind == 10 || x.kind == 11) then (if T (x.kids.getD 0 0) == 1 && T (x.kids.getD 1 0) == 1 then 1 else 0)
 else if x.kind == 12 then (if YE T p x then (fAt p.fns (xE p.fns x.name)).res else 0)
 else 0
def zls (p : ProgramD) (l : List VarD) : Nat -> Int -> Int
 | 0, _ => 0
 | d + 1, k => zih (zls p l d) p l (nAt p.nodes k)
def yl (p : ProgramD) (l : List VarD) (k : Int) : Int := zls p l (k.toNat + 1) k
theorem zha {f g : Nat -> Bool} {n : Nat} (h : ∀ i, i < n -> f i = g i) : zJ f n = zJ g n := by
 rw [Bool.eq_iff_iff, yn, yn]
 exact ⟨fun hh i hi => by rw [<- h i hi]; exact hh i hi, fun hh i hi => by rw [h i hi]; exact hh i hi⟩
theorem zhT {T U : Int -> Int} (p : ProgramD) (x : NodeD) (h : ∀ kid ∈ x.kids, T kid = U kid) : YE T p x = YE U p x := by
 unfold YE
 congr 2
 apply zha
 intro i hi
 have hg : x.kids.getD i 0 = x.kids[i] := by simp [List.getD, hi]
 rw [hg, h x.kids[i] (List.getElem_mem hi)]
theorem zcU {T U : Int -> Int} (p : ProgramD) (l : List VarD) (x : NodeD) (hs : inI x.kids.length (zG x.kind).1 (zG x.kind).2 = true) (h : ∀ kid ∈ x.kids, T kid = U kid) : zih T p l x = zih U p l x := by
 have hsr := zx hs
 have get : ∀ i, i < x.kids.length -> T (x.kids.getD i 0) = U (x.kids.getD i 0) := fun i hi => by
   have hg : x.kids.getD i 0 = x.kids[i] := by simp [List.getD, hi]
   rw [hg, h x.kids[i] (List.getElem_mem hi)]
 unfold zih
 rw [zhT p x h]
 by_cases h8 : x.kind = 8
 · rw [h8] at hsr
   have h0 : 0 < x.kids.length := by have := hsr.1; simp [zG] at this; omega
   rw [get 0 h0]
   simp [h8]
 · by_cases h9 : x.kind = 9 \/ x.kind = 10 \/ x.kind = 11
   · have h0 : 1 < x.kids.length := by
       rcases h9 with h9 | h9 | h9 <;> rw [h9] at hsr <;> have := hsr.1 <;> simp [zG] at this <;> omega
     rw [get 0 (by omega), get 1 h0]
   · have e8 : (x.kind == 8) = false := by simpa using h8
     have e9 : (x.kind == 9 || (x.kind == 10 || x.kind == 11)) = false := by
       simp only [Bool.or_eq_false_iff, beq_eq_false_iff_ne]
       exact ⟨fun e => h9 (Or.inl e), fun e => h9 (Or.inr (Or.inl e)), fun e => h9 (Or.inr (Or.inr e))⟩
     rw [e8, e9]
     rfl
theorem zkn {p : ProgramD} (hD : Deep p.nodes) (l : List VarD) : ∀ (d n : Nat), n < p.nodes.length -> n < d -> zls p l d n = yl p l n := by
 intro d
 induction d using Nat.strongRecOn with
 | ind d ih =>
 intro n hn hd
 obtain ⟨e, rfl⟩ : ∃ e, d = e + 1 := ⟨d - 1, by omega⟩
 unfold yl
 have e2 : ((n : Int).toNat + 1) = n + 1 := by omega
 rw [e2]
 unfold zls
 rw [zF hn]
 apply zcU p l _ (xP (hD.deep n hn) hn)
 intro kid hk
 obtain ⟨q0, q1, q2⟩ := hD.kid hn kid hk
 obtain ⟨m, rfl⟩ : ∃ m : Nat, kid = m := ⟨kid.toNat, by omega⟩
 have h1 := ih e (by omega) m (by omega) (by omega)
 by_cases hne : n = e
 · subst hne; rfl
 · have h2 := ih n (by omega) m (by omega) (by omega)
   rw [h1, h2]
theorem zjn {p : ProgramD} (hD : Deep p.nodes) (l : List VarD) {n : Nat} (hn : n < p.nodes.length) : yl p l n = zih (yl p l) p l p.nodes[n] := by
 have e2 : ((n : Int).toNat + 1) = n + 1 := by omega
 unfold yl
 rw [e2]
 conv => lhs; unfold zls
 rw [zF hn]
 apply zcU p l _ (xP (hD.deep n hn) hn)
 intro kid hk
 obtain ⟨q0, q1, q2⟩ := hD.kid hn kid hk
 obtain ⟨m, rfl⟩ : ∃ m : Nat, kid = m := ⟨kid.toNat, by omega⟩
 exact zkn hD l n m (by omega) (by omega)
theorem zbZ (l : List VarD) (s : ByteArray) (hl : l.length <= 4194304) : zu Tryz.prog 102 [.ro (.imm 96 (rows (varC true) l)), .ro (.sc (.string s))] (fun rs st => rs = [(false, [cI (XY l s)])]) := by
 refine zm (fn := Tryz.f102) (c := Tryz.f102.body.getD .skip) (res := [.tm 4]) (n := 16) zf (by kernel_rfl) (by rfl) (by kernel_rfl) (by rfl) (by rfl) (by simp [zp]) (fun uf ub C hpin hpin2 hfull => ?_)
 simp only [Tryz.f102, Option.getD_some]
 have hva := Xk l s hl
 have hrg := zaF s l 0
 have hfe : yp l s = Xg s l 0 := rfl
 rw [<- hfe] at hrg
 unfold XY
 refine Tri.step zf ?_
 simp +decide only [zb, za, hpin, go_sem, reduceAdd, reduceMul]
 refine Tri.step zf ?_
 simp +decide only [zb, za, hpin, go_sem, reduceAdd, reduceMul]
 refine zd hva hpin ?_
 generalize yp l s = at_ at hrg |-
 simp +decide only [zb, za, hpin, go_sem, reduceAdd, reduceMul]
 refine Tri.step zf ?_
 by_cases ha : at_ < 0
 · have c1 : (at_ < 0) = True := eq_true ha
   simp +decide only [c1, zb, za, hpin, go_sem, reduceAdd, reduceMul]
 · have c1 : (at_ < 0) = False := eq_false ha
   obtain ⟨m, rfl⟩ : ∃ m : Nat, at_ = m := ⟨at_.toNat, by omega⟩
   have hml : m < l.length := by rcases hrg with h | h <;> omega
   have c2 : ((m : Int) < (l.length : Int)) = True := eq_true (by omega)
   have hv : vAt l (m : Int) = l[m] := by simp [vAt, List.getD, hml]
   simp +decide only [c1, zb, za, hpin, go_sem, reduceAdd, reduceMul]
   refine ze zf _ ?_
   simp +decide only [c2, hv, zh _ _ hml, varC, Int.natCast_nonneg, zb, za, hpin, go_sem, reduceAdd, reduceMul]
theorem zbY (l : List VarD) (s : ByteArray) (hl : l.length <= 4194304) : zu Tryz.prog 97 [.ro (.imm 96 (rows (varC true) l)), .ro (.sc (.string s))] (fun rs st => rs = [(false, [cI (XY l s)])]) := by
 refine zm (fn := Tryz.f97) (c := Tryz.f97.body.getD .skip) (res := [.tm 4]) (n := 16) zf (by kernel_rfl) (by rfl) (by kernel_rfl) (by rfl) (by rfl) (by simp [zp]) (fun uf ub C hpin hpin2 hfull => ?_)
 simp only [Tryz.f97, Option.getD_some]
 have hva := Xj l s hl
 have hrg := zaF s l 0
 have hfe : yp l s = Xg s l 0 := rfl
 rw [<- hfe] at hrg
 unfold XY
 refine Tri.step zf ?_
 simp +decide only [zb, za, hpin, go_sem, reduceAdd, reduceMul]
 refine Tri.step zf ?_
 simp +decide only [zb, za, hpin, go_sem, reduceAdd, reduceMul]
 refine zd hva hpin ?_
 generalize yp l s = at_ at hrg |-
 simp +decide only [zb, za, hpin, go_sem, reduceAdd, reduceMul]
 refine Tri.step zf ?_
 by_cases ha : at_ < 0
 · have c1 : (at_ < 0) = True := eq_true ha
   simp +decide only [c1, zb, za, hpin, go_sem, reduceAdd, reduceMul]
 · have c1 : (at_ < 0) = False := eq_false ha
   obtain ⟨m, rfl⟩ : ∃ m : Nat, at_ = m := ⟨at_.toNat, by omega⟩
   have hml : m < l.length := by rcases hrg with h | h <;> omega
   have c2 : ((m : Int) < (l.length : Int)) = True := eq_true (by omega)
   have hv : vAt l (m : Int) = l[m] := by simp [vAt, List.getD, hml]
   simp +decide only [c1, zb, za, hpin, go_sem, reduceAdd, reduceMul]
   refine ze zf _ ?_
   simp +decide only [c2, hv, zh _ _ hml, varC, Int.natCast_nonneg, zb, za, hpin, go_sem, reduceAdd, reduceMul]
theorem zjx {ps : List ParamD} {i : Nat} (h : i < ps.length) : prTy ps i = ps[i].ty := by simp [prTy, List.getD, h]
theorem zbA (p : ProgramD) (l : List VarD) (hl : l.length <= 4194304) (hf : p.fns.length <= 1048576) (hn : p.nodes.length <= 1048576) (hk : ∀ x ∈ p.nodes, x.kids.length <= 300) (n : Nat) (hnl : n < p.nodes.length)
   (ih : ∀ kid ∈ p.nodes[n].kids, zu Tryz.prog 119 [.ro (zb p), .ro (.imm 96 (rows (varC true) l)), .ro (.sc (.int .i64 kid))] (fun rs st => rs = [(false, [cI (yl p l kid)])])) :
   zu Tryz.prog 178 [.ro (zb p), .ro (.imm 96 (rows (varC true) l)), .ro (.sc (.int .i64 n))] (fun rs st => rs = [(false, [cB (YE (yl p l) p p.nodes[n])])]) := by
 have hkx := hk p.nodes[n] (List.getElem_mem hnl)
 have hx : (rows (zg true) p.nodes).getD n [] = zg true p.nodes[n] := zh _ _ hnl
 have hc1 : ((n : Int) < (p.nodes.length : Int)) = True := eq_true (by omega)
 generalize p.nodes[n] = x at hkx hx ih
 have hfa := YW p x.name hf
 have hrg := ZZ x.name p.fns 0
 have hfe : xE p.fns x.name = zbr x.name p.fns 0 := rfl
 rw [<- hfe] at hrg
 simp only [zb] at hfa ih
 unfold YE
 refine zm (fn := Tryz.f178) (c := Tryz.f178.body.getD .skip) (res := [.tm 6]) (n := 59) zf (by kernel_rfl) (by rfl) (by kernel_rfl) (by rfl) (by rfl) (by simp [zp]) (fun uf ub C hpin hpin2 hfull => ?_)
 simp only [Tryz.f178, Option.getD_some]
 refine Tri.step zf ?_
 simp +decide only [zb, za, hpin, go_sem, reduceAdd, reduceMul]
 refine Tri.ent ?_ (Ent.frb hfull 3)
 refine Tri.step zf ?_
 simp +decide only [hc1, hx, zg, Int.natCast_nonneg, zb, za, hpin, go_sem, reduceAdd, reduceMul]
 refine Tri.ent ?_ (Ent.frb hfull 7)
 refine Tri.step zf ?_
 simp +decide only [zb, za, hpin, go_sem, reduceAdd, reduceMul]
 refine zd hfa hpin ?_
 generalize xE p.fns x.name = at_ at hrg |-
 simp +decide only [zb, za, hpin, go_sem, reduceAdd, reduceMul]
 refine Tri.step zf ?_
 refine ze zf _ ?_
 simp +decide only [zb, za, hpin, go_sem, reduceAdd, reduceMul]
 refine Tri.sched zf [(0, false), (1, false), (2, false), (3, true), (5, true), (10, true), (4, true), (6, true), (7, true), (8, true), (9, true), (11, false), (12, false), (13, false), (14, false)] zV (by kernel_rfl) (fun C2 hC2 => ?_)
 have hp2 := zY hC2 hpin
 by_cases ha : at_ < 0
 · have c1 : (at_ < 0) = True := eq_true ha
   have c2 : decide (0 <= at_) = false := decide_eq_false (by omega)
   rcases zea p.fns at_.toNat with ⟨y, hy⟩ | hy
   · simp +decide only [c1, c2, hy, fnC, zg, zb, za, hp2, hpin, go_sem, reduceAdd, reduceMul]
   · simp +decide only [c1, c2, hy, zg, zb, za, hp2, hpin, go_sem, reduceAdd, reduceMul]
 have c1 : (at_ < 0) = False := eq_false ha
 have c2 : decide (0 <= at_) = true := decide_eq_true (by omega)
 obtain ⟨m, rfl⟩ : ∃ m : Nat, at_ = m := ⟨at_.toNat, by omega⟩
 have hml : m < p.fns.length := by rcases hrg with h | h <;> omega
 have hy : (rows (fnC true) p.fns).getD m [] = fnC true p.fns[m] := zh _ _ hml
 have hc2 : ((m : Int) < (p.fns.length : Int)) = True := eq_true (by omega)
 rw [yS hml]
 generalize p.fns[m] = y at hy
 cases hlen : (y.params.length : Int) == (x.kids.length : Int) with
 | false =>
   simp +decide only [c1, c2, hy, hc2, hlen, fnC, zg, bne, Int.natCast_nonneg, zb, za, hp2, hpin, go_sem, reduceAdd, reduceMul]
 | true =>
 have hle := eq_of_beq hlen
 simp +decide only [c1, c2, hy, hc2, hlen, fnC, zg, bne, Int.natCast_nonneg, zb, za, hp2, hpin, go_sem, reduceAdd, reduceMul]
 refine Tri.step zf ?_
 simp +decide only [zg, zb, za, hpin, go_sem, reduceAdd, reduceMul]
 refine Tri.loop (ι := Nat) (fun i => i <= x.kids.length /\ zJ (fun i => yl p l (x.kids.getD i 0) == prTy y.params i) i = true) (fun i => ⟨59, [(1, .imm 96 (rows (varC true) l)), (3, .ip (za true p) 0), (6, vB false), (7, .ip (zg true x) 0), (8, vI m), (36, roI x.kids), (37, vI x.kids.length), (38, vI i)], []⟩) (fun i => x.kids.length - i) 0 ⟨by simp, rfl⟩ ?_ ?_
 · refine Ent.weak ?_ ?_ ?_ ?_ <;> simp +decide [subT, subB, zk, zj, zl, St.get, look, vI, vB, vS, cI, cS, cB, zg, za, roI]
 · rintro i ⟨hi, hq⟩
   refine ze zf _ ?_
   by_cases h' : i < x.kids.length
   · have e : ((i : Int) < (x.kids.length : Int)) = True := by simp [h']
     have hip : i < y.params.length := by omega
     have e2 : ((i : Int) < (y.params.length : Int)) = True := eq_true (by omega)
     have hg : x.kids.getD i 0 = x.kids[i] := by simp [List.getD, h']
     have hpt := zjx hip
     have hz : (rows (zr true) y.params).getD i [] = zr true y.params[i] := zh _ _ hip
     have hih := ih x.kids[i] (List.getElem_mem h')
     simp +decide only [e, h', zq _ _ h', Int.natCast_nonneg, zg, za, vB, vI, zb, za, hpin, go_sem, reduceAdd, reduceMul]
     refine Tri.sched zf [(1, true), (2, true), (4, true), (6, true), (10, true), (0, true), (5, true), (7, true), (8, true), (9, true), (11, true), (12, true), (13, true), (3, false), (14, false)] zV (by kernel_rfl) (fun C3 hC3 => ?_)
     have hp3 := zY hC3 hpin
     simp +decide only [e2, hy, hc2, hz, fnC, zr, Int.natCast_nonneg, zb, za, hp3, go_sem, reduceAdd, reduceMul]
     refine zd hih hp3 ?_
     cases hc : yl p l x.kids[i] == y.params[i].ty with
     | false =>
       have hff : zJ (fun i => yl p l (x.kids.getD i 0) == prTy y.params i) x.kids.length = false := zw h' (by simp only [hg, hpt, hc])
       simp +decide only [hc, hff, bne, zb, za, hp3, hpin, go_sem, reduceAdd, reduceMul]
     | true =>
       simp +decide only [hc, bne, zb, za, hp3, hpin, go_sem, reduceAdd, reduceMul]
       refine ⟨i + 1, ⟨h', by rw [zN, hq, hg, hpt, hc]; rfl⟩, by omega, Ent.weak ?_ ?_ ?_ ?_⟩
       all_goals simp +decide [subT, subB, zk, zj, zl, St.get, look, vI, vB, vS, cI, cS, cB, zg, za, roI, w64s (n := x.kids.length) h' (by omega)]
   · have hil : i = x.kids.length := by omega
     subst hil
     have e : ((x.kids.length : Int) < (x.kids.length : Int)) = False := by simp
     simp +decide only [e, vB, vI, zb, za, hpin, go_sem, reduceAdd, reduceMul]
     refine ze zf _ ?_
     simp +decide only [hq, zb, za, hpin, go_sem, reduceAdd, reduceMul]
theorem YI (p : ProgramD) (hD : Deep p.nodes) (l : List VarD) (hl : l.length <= 4194304) (hf : p.fns.length <= 1048576) (hn : p.nodes.length <= 1048576) (hk : ∀ x ∈ p.nodes, x.kids.length <= 300) (n : Nat) : n < p.nodes.length ->
   zu Tryz.prog 119 [.ro (zb p), .ro (.imm 96 (rows (varC true) l)), .ro (.sc (.int .i64 n))] (fun rs st => rs = [(false, [cI (yl p l n)])]) := by
 induction n using Nat.strongRecOn with
 | ind n ih =>
 intro hnl
 have hkid := hD.kid hnl
 have hkx := hk p.nodes[n] (List.getElem_mem hnl)
 have hsh := zx (xP (hD.deep n hnl) hnl)
 have hrec : ∀ kid ∈ p.nodes[n].kids, zu Tryz.prog 119 [.ro (zb p), .ro (.imm 96 (rows (varC true) l)), .ro (.sc (.int .i64 kid))] (fun rs st => rs = [(false, [cI (yl p l kid)])]) := fun kid hkk => by
   obtain ⟨q0, q1, q2⟩ := hkid kid hkk
   have e : kid = (kid.toNat : Int) := by omega
   have := ih kid.toNat q2 (by omega)
   rw [<- e] at this
   exact this
 have hcr := zbA p l hl hf hn hk n hnl hrec
 have heq := zjn hD l hnl
 have hx : (rows (zg true) p.nodes).getD n [] = zg true p.nodes[n] := zh _ _ hnl
 have hc1 : ((n : Int) < (p.nodes.length : Int)) = True := eq_true (by omega)
 generalize yl p l n = R at heq |-
 generalize p.nodes[n] = x at hkid hkx hsh hrec hcr heq hx
 have hvt := zbZ l x.name hl
 have hfa := YW p x.name hf
 simp only [zb] at hfa hrec hcr
 have hrg := ZZ x.name p.fns 0
 have hfe : xE p.fns x.name = zbr x.name p.fns 0 := rfl
 rw [<- hfe] at hrg
 unfold zih at heq
 generalize XY l x.name = tv at heq hvt
 refine zm (fn := Tryz.f119) (c := Tryz.f119.body.getD .skip) (res := [.tm 6]) (n := 105) zf (by kernel_rfl) (by rfl) (by kernel_rfl) (by rfl) (by rfl) (by simp [zp]) (fun uf ub C hpin hpin2 hfull => ?_)
 simp only [Tryz.f119, Option.getD_some]
 refine Tri.step zf ?_
 simp +decide only [zb, za, hpin, go_sem, reduceAdd, reduceMul]
 refine Tri.ent ?_ (Ent.frb hfull 3)
 refine Tri.step zf ?_
 simp +decide only [hc1, hx, zg, Int.natCast_nonneg, zb, za, hpin, go_sem, reduceAdd, reduceMul]
 refine Tri.ent ?_ (Ent.frb hfull 7)
 refine Tri.step zf ?_
 simp +decide only [zb, za, hpin, go_sem, reduceAdd, reduceMul]
 refine zd hvt hpin ?_
 simp +decide only [zb, za, hpin, go_sem, reduceAdd, reduceMul]
 refine Tri.step zf ?_
 cases h1 : x.kind == 1 with
 | true =>
   have ek := eq_of_beq h1
   rw [ek] at heq
   simp +decide only [Bool.or_true, Bool.true_or, Bool.or_false, Bool.false_or, if_true, if_false, Int.reduceBEq, Bool.false_eq_true] at heq
   simp +decide only [h1, heq, zg, zb, za, hpin, go_sem, reduceAdd, reduceMul]
 | false =>
 cases h7 : x.kind == 7 with
 | true =>
   have ek := eq_of_beq h7
   rw [ek] at heq
   simp +decide only [Bool.or_true, Bool.true_or, Bool.or_false, Bool.false_or, if_true, if_false, Int.reduceBEq, Bool.false_eq_true] at heq
   simp +decide only [h1, h7, heq, zg, zb, za, hpin, go_sem, reduceAdd, reduceMul]
 | false =>
 cases h2 : x.kind == 2 with
 | true =>
   have ek := eq_of_beq h2
   rw [ek] at heq
   simp +decide only [Bool.or_true, Bool.true_or, Bool.or_false, Bool.false_or, if_true, if_false, Int.reduceBEq, Bool.false_eq_true] at heq
   simp +decide only [h1, h7, h2, heq, zg, zb, za, hpin, go_sem, reduceAdd, reduceMul]
 | false =>
 cases h3 : x.kind == 3 with
 | true =>
   have ek := eq_of_beq h3
   rw [ek] at heq
   simp +decide only [Bool.or_true, Bool.true_or, Bool.or_false, Bool.false_or, if_true, if_false, Int.reduceBEq, Bool.false_eq_true] at heq
   unfold zhE at heq
   cases t2 : tv == 2 with
   | true =>
     simp +decide only [t2, Bool.true_or, if_true] at heq
     simp +decide only [h1, h7, h2, h3, t2, heq, zg, zb, za, hpin, go_sem, reduceAdd, reduceMul]
   | false =>
   cases t3 : tv == 3 with
   | true =>
     simp +decide only [t2, t3, Bool.true_or, Bool.false_or, if_true] at heq
     simp +decide only [h1, h7, h2, h3, t2, t3, heq, zg, zb, za, hpin, go_sem, reduceAdd, reduceMul]
   | false =>
   cases t4 : tv == 4 with
   | true =>
     simp +decide only [t2, t3, t4, Bool.true_or, Bool.false_or, if_true] at heq
     simp +decide only [h1, h7, h2, h3, t2, t3, t4, heq, zg, zb, za, hpin, go_sem, reduceAdd, reduceMul]
   | false =>
   simp +decide only [t2, t3, t4, Bool.false_or, if_false, Bool.false_eq_true] at heq
   simp +decide only [h1, h7, h2, h3, t2, t3, t4, zg, zb, za, hpin, go_sem, reduceAdd, reduceMul]
   refine ze zf _ ?_
   simp +decide only [heq, zb, za, hpin, go_sem, reduceAdd, reduceMul]
 | false =>
 cases h4 : x.kind == 4 with
 | true =>
   have ek := eq_of_beq h4
   rw [ek] at heq
   simp +decide only [Bool.or_true, Bool.true_or, Bool.or_false, Bool.false_or, if_true, if_false, Int.reduceBEq, Bool.false_eq_true] at heq
   unfold zhE at heq
   cases t2 : tv == 2 with
   | true =>
     simp +decide only [t2, Bool.true_or, if_true] at heq
     simp +decide only [h1, h7, h2, h3, h4, t2, heq, zg, zb, za, hpin, go_sem, reduceAdd, reduceMul]
   | false =>
   cases t3 : tv == 3 with
   | true =>
     simp +decide only [t2, t3, Bool.true_or, Bool.false_or, if_true] at heq
     simp +decide only [h1, h7, h2, h3, h4, t2, t3, heq, zg, zb, za, hpin, go_sem, reduceAdd, reduceMul]
   | false =>
   cases t4 : tv == 4 with
   | true =>
     simp +decide only [t2, t3, t4, Bool.true_or, Bool.false_or, if_true] at heq
     simp +decide only [h1, h7, h2, h3, h4, t2, t3, t4, heq, zg, zb, za, hpin, go_sem, reduceAdd, reduceMul]
   | false =>
   simp +decide only [t2, t3, t4, Bool.false_or, if_false, Bool.false_eq_true] at heq
   simp +decide only [h1, h7, h2, h3, h4, t2, t3, t4, zg, zb, za, hpin, go_sem, reduceAdd, reduceMul]
   refine ze zf _ ?_
   simp +decide only [heq, zb, za, hpin, go_sem, reduceAdd, reduceMul]
 | false =>
 cases h5 : x.kind == 5 with
 | true =>
   have ek := eq_of_beq h5
   rw [ek] at heq
   simp +decide only [Bool.or_true, Bool.true_or, Bool.or_false, Bool.false_or, if_true, if_false, Int.reduceBEq, Bool.false_eq_true] at heq
   cases t2 : tv == 2 with
   | true =>
     simp +decide only [t2, if_true] at heq
     simp +decide only [h1, h7, h2, h3, h4, h5, t2, heq, zg, zb, za, hpin, go_sem, reduceAdd, reduceMul]
   | false =>
   simp +decide only [t2, if_false, Bool.false_eq_true] at heq
   simp +decide only [h1, h7, h2, h3, h4, h5, t2, zg, zb, za, hpin, go_sem, reduceAdd, reduceMul]
   refine ze zf _ ?_
   simp +decide only [heq, zb, za, hpin, go_sem, reduceAdd, reduceMul]
 | false =>
 cases h6 : x.kind == 6 with
 | true =>
   have ek := eq_of_beq h6
   rw [ek] at heq
   simp +decide only [Bool.or_true, Bool.true_or, Bool.or_false, Bool.false_or, if_true, if_false, Int.reduceBEq, Bool.false_eq_true] at heq
   cases t2 : tv == 2 with
   | true =>
     simp +decide only [t2, if_true] at heq
     simp +decide only [h1, h7, h2, h3, h4, h5, h6, t2, heq, zg, zb, za, hpin, go_sem, reduceAdd, reduceMul]
   | false =>
   simp +decide only [t2, if_false, Bool.false_eq_true] at heq
   simp +decide only [h1, h7, h2, h3, h4, h5, h6, t2, zg, zb, za, hpin, go_sem, reduceAdd, reduceMul]
   refine ze zf _ ?_
   simp +decide only [heq, zb, za, hpin, go_sem, reduceAdd, reduceMul]
 | false =>
 cases h8 : x.kind == 8 with
 | true =>
   have ek := eq_of_beq h8
   rw [ek] at heq
   simp +decide only [Bool.or_true, Bool.true_or, Bool.or_false, Bool.false_or, if_true, if_false, Int.reduceBEq, Bool.false_eq_true] at heq
   have hpos : 0 < x.kids.length := by rw [ek] at hsh; have := hsh.1; simp [zG] at this; omega
   have hg0 : (row1 cI x.kids).getD (Int.toNat 0) [] = [cI x.kids[0]] := zq cI x.kids hpos
   have hc0 : ((0 : Int) < (x.kids.length : Int)) = True := eq_true (by omega)
   have hk0 : x.kids.getD 0 0 = x.kids[0] := by simp [List.getD, hpos]
   have hih := hrec x.kids[0] (List.getElem_mem hpos)
   rw [hk0] at heq
   simp only [cI] at hg0
   simp +decide only [h1, h7, h2, h3, h4, h5, h6, h8, zg, zb, za, hpin, go_sem, reduceAdd, reduceMul]
   refine Tri.sched zf [(1, true), (2, true), (0, true), (3, false), (4, false), (5, false), (6, false), (7, false)] zV (by kernel_rfl) (fun C2 hC2 => ?_)
   have hp2 := zY hC2 hpin
   simp +decide only [hg0, hc0, hpos, zb, za, hp2, go_sem, reduceAdd, reduceMul]
   refine zd hih hp2 ?_
   cases hT : yl p l x.kids[0] == 1 with
   | true =>
     simp +decide only [hT, if_true] at heq
     simp +decide only [hT, heq, zb, za, hp2, hpin, go_sem, reduceAdd, reduceMul]
   | false =>
   simp +decide only [hT, if_false, Bool.false_eq_true] at heq
   simp +decide only [hT, zb, za, hp2, hpin, go_sem, reduceAdd, reduceMul]
   refine ze zf _ ?_
   simp +decide only [heq, zb, za, hpin, go_sem, reduceAdd, reduceMul]
 | false =>
 cases h9 : x.kind == 9 with
 | true =>
   have ek := eq_of_beq h9
   rw [ek] at heq
   simp +decide only [Bool.or_true, Bool.true_or, Bool.or_false, Bool.false_or, if_true, if_false, Int.reduceBEq, Bool.false_eq_true] at heq
   have hpos : 1 < x.kids.length := by rw [ek] at hsh; have := hsh.1; simp [zG] at this; omega
   have hg0 : (row1 cI x.kids).getD (Int.toNat 0) [] = [cI (x.kids[0]'(by omega))] := zq cI x.kids (by omega)
   have hg1 : (row1 cI x.kids).getD (Int.toNat 1) [] = [cI x.kids[1]] := zq cI x.kids hpos
   have hc0 : ((0 : Int) < (x.kids.length : Int)) = True := eq_true (by omega)
   have hc01 : ((1 : Int) < (x.kids.length : Int)) = True := eq_true (by omega)
   have hk0 : x.kids.getD 0 0 = x.kids[0]'(by omega) := by simp [List.getD, show 0 < x.kids.length by omega]
   have hk1 : x.kids.getD 1 0 = x.kids[1] := by simp [List.getD, hpos]
   have hih := hrec (x.kids[0]'(by omega)) (List.getElem_mem _)
   have hih1 := hrec x.kids[1] (List.getElem_mem hpos)
   rw [hk0, hk1] at heq
   simp only [cI] at hg0 hg1
   simp +decide only [h1, h7, h2, h3, h4, h5, h6, h8, h9, zg, zb, za, hpin, go_sem, reduceAdd, reduceMul]
   refine Tri.sched zf [(1, true), (2, true), (0, true), (3, false), (4, false), (5, false), (6, false), (7, false), (8, false), (10, true), (11, true), (9, true), (12, false), (13, false), (14, false), (15, false), (16, false), (17, false)] zV (by kernel_rfl) (fun C2 hC2 => ?_)
   have hp2 := zY hC2 hpin
   simp +decide only [hg0, hc0, hpos, zb, za, hp2, go_sem, reduceAdd, reduceMul]
   refine zd hih hp2 ?_
   cases hT : yl p l (x.kids[0]'(by omega)) == 1 with
   | false =>
     simp +decide only [hT, Bool.false_and, if_false, Bool.false_eq_true] at heq
     simp +decide only [hT, hg0, hg1, hc0, hc01, hpos, zb, za, hp2, hpin, go_sem, reduceAdd, reduceMul]
     refine ze zf _ ?_
     simp +decide only [heq, zb, za, hpin, go_sem, reduceAdd, reduceMul]
   | true =>
   simp +decide only [hT, hg0, hg1, hc0, hc01, hpos, zb, za, hp2, go_sem, reduceAdd, reduceMul]
   refine zd hih1 hp2 ?_
   cases hT1 : yl p l x.kids[1] == 1 with
   | true =>
     simp +decide only [hT, hT1, Bool.true_and, if_true] at heq
     simp +decide only [hT1, heq, zb, za, hp2, hpin, go_sem, reduceAdd, reduceMul]
   | false =>
   simp +decide only [hT, hT1, Bool.true_and, if_false, Bool.false_eq_true] at heq
   simp +decide only [hT1, zb, za, hp2, hpin, go_sem, reduceAdd, reduceMul]
   refine ze zf _ ?_
   simp +decide only [heq, zb, za, hpin, go_sem, reduceAdd, reduceMul]
 | false =>
 cases h10 : x.kind == 10 with
 | true =>
   have ek := eq_of_beq h10
   rw [ek] at heq
   simp +decide only [Bool.or_true, Bool.true_or, Bool.or_false, Bool.false_or, if_true, if_false, Int.reduceBEq, Bool.false_eq_true] at heq
   have hpos : 1 < x.kids.length := by rw [ek] at hsh; have := hsh.1; simp [zG] at this; omega
   have hg0 : (row1 cI x.kids).getD (Int.toNat 0) [] = [cI (x.kids[0]'(by omega))] := zq cI x.kids (by omega)
   have hg1 : (row1 cI x.kids).getD (Int.toNat 1) [] = [cI x.kids[1]] := zq cI x.kids hpos
   have hc0 : ((0 : Int) < (x.kids.length : Int)) = True := eq_true (by omega)
   have hc01 : ((1 : Int) < (x.kids.length : Int)) = True := eq_true (by omega)
   have hk0 : x.kids.getD 0 0 = x.kids[0]'(by omega) := by simp [List.getD, show 0 < x.kids.length by omega]
   have hk1 : x.kids.getD 1 0 = x.kids[1] := by simp [List.getD, hpos]
   have hih := hrec (x.kids[0]'(by omega)) (List.getElem_mem _)
   have hih1 := hrec x.kids[1] (List.getElem_mem hpos)
   rw [hk0, hk1] at heq
   simp only [cI] at hg0 hg1
   simp +decide only [h1, h7, h2, h3, h4, h5, h6, h8, h9, h10, zg, zb, za, hpin, go_sem, reduceAdd, reduceMul]
   refine Tri.sched zf [(1, true), (2, true), (0, true), (3, false), (4, false), (5, false), (6, false), (7, false), (8, false), (10, true), (11, true), (9, true), (12, false), (13, false), (14, false), (15, false), (16, false), (17, false)] zV (by kernel_rfl) (fun C2 hC2 => ?_)
   have hp2 := zY hC2 hpin
   simp +decide only [hg0, hc0, hpos, zb, za, hp2, go_sem, reduceAdd, reduceMul]
   refine zd hih hp2 ?_
   cases hT : yl p l (x.kids[0]'(by omega)) == 1 with
   | false =>
     simp +decide only [hT, Bool.false_and, if_false, Bool.false_eq_true] at heq
     simp +decide only [hT, hg0, hg1, hc0, hc01, hpos, zb, za, hp2, hpin, go_sem, reduceAdd, reduceMul]
     refine ze zf _ ?_
     simp +decide only [heq, zb, za, hpin, go_sem, reduceAdd, reduceMul]
   | true =>
   simp +decide only [hT, hg0, hg1, hc0, hc01, hpos, zb, za, hp2, go_sem, reduceAdd, reduceMul]
   refine zd hih1 hp2 ?_
   cases hT1 : yl p l x.kids[1] == 1 with
   | true =>
     simp +decide only [hT, hT1, Bool.true_and, if_true] at heq
     simp +decide only [hT1, heq, zb, za, hp2, hpin, go_sem, reduceAdd, reduceMul]
   | false =>
   simp +decide only [hT, hT1, Bool.true_and, if_false, Bool.false_eq_true] at heq
   simp +decide only [hT1, zb, za, hp2, hpin, go_sem, reduceAdd, reduceMul]
   refine ze zf _ ?_
   simp +decide only [heq, zb, za, hpin, go_sem, reduceAdd, reduceMul]
 | false =>
 cases h11 : x.kind == 11 with
 | true =>
   have ek := eq_of_beq h11
   rw [ek] at heq
   simp +decide only [Bool.or_true, Bool.true_or, Bool.or_false, Bool.false_or, if_true, if_false, Int.reduceBEq, Bool.false_eq_true] at heq
   have hpos : 1 < x.kids.length := by rw [ek] at hsh; have := hsh.1; simp [zG] at this; omega
   have hg0 : (row1 cI x.kids).getD (Int.toNat 0) [] = [cI (x.kids[0]'(by omega))] := zq cI x.kids (by omega)
   have hg1 : (row1 cI x.kids).getD (Int.toNat 1) [] = [cI x.kids[1]] := zq cI x.kids hpos
   have hc0 : ((0 : Int) < (x.kids.length : Int)) = True := eq_true (by omega)
   have hc01 : ((1 : Int) < (x.kids.length : Int)) = True := eq_true (by omega)
   have hk0 : x.kids.getD 0 0 = x.kids[0]'(by omega) := by simp [List.getD, show 0 < x.kids.length by omega]
   have hk1 : x.kids.getD 1 0 = x.kids[1] := by simp [List.getD, hpos]
   have hih := hrec (x.kids[0]'(by omega)) (List.getElem_mem _)
   have hih1 := hrec x.kids[1] (List.getElem_mem hpos)
   rw [hk0, hk1] at heq
   simp only [cI] at hg0 hg1
   simp +decide only [h1, h7, h2, h3, h4, h5, h6, h8, h9, h10, h11, zg, zb, za, hpin, go_sem, reduceAdd, reduceMul]
   refine Tri.sched zf [(1, true), (2, true), (0, true), (3, false), (4, false), (5, false), (6, false), (7, false), (8, false), (10, true), (11, true), (9, true), (12, false), (13, false), (14, false), (15, false), (16, false), (17, false)] zV (by kernel_rfl) (fun C2 hC2 => ?_)
   have hp2 := zY hC2 hpin
   simp +decide only [hg0, hc0, hpos, zb, za, hp2, go_sem, reduceAdd, reduceMul]
   refine zd hih hp2 ?_
   cases hT : yl p l (x.kids[0]'(by omega)) == 1 with
   | false =>
     simp +decide only [hT, Bool.false_and, if_false, Bool.false_eq_true] at heq
     simp +decide only [hT, hg0, hg1, hc0, hc01, hpos, zb, za, hp2, hpin, go_sem, reduceAdd, reduceMul]
     refine ze zf _ ?_
     simp +decide only [heq, zb, za, hpin, go_sem, reduceAdd, reduceMul]
   | true =>
   simp +decide only [hT, hg0, hg1, hc0, hc01, hpos, zb, za, hp2, go_sem, reduceAdd, reduceMul]
   refine zd hih1 hp2 ?_
   cases hT1 : yl p l x.kids[1] == 1 with
   | true =>
     simp +decide only [hT, hT1, Bool.true_and, if_true] at heq
     simp +decide only [hT1, heq, zb, za, hp2, hpin, go_sem, reduceAdd, reduceMul]
   | false =>
   simp +decide only [hT, hT1, Bool.true_and, if_false, Bool.false_eq_true] at heq
   simp +decide only [hT1, zb, za, hp2, hpin, go_sem, reduceAdd, reduceMul]
   refine ze zf _ ?_
   simp +decide only [heq, zb, za, hpin, go_sem, reduceAdd, reduceMul]
 | false =>
 cases h12 : x.kind == 12 with
 | true =>
   have ek := eq_of_beq h12
   rw [ek] at heq
   simp +decide only [Bool.or_true, Bool.true_or, Bool.or_false, Bool.false_or, if_true, if_false, Int.reduceBEq, Bool.false_eq_true] at heq
   simp +decide only [h1, h7, h2, h3, h4, h5, h6, h8, h9, h10, h11, h12, zg, zb, za, hpin, go_sem, reduceAdd, reduceMul]
   refine zd hcr hpin ?_
   cases hc : YE (yl p l) p x with
   | false =>
     simp +decide only [hc, if_false, Bool.false_eq_true] at heq
     simp +decide only [zb, za, hpin, go_sem, reduceAdd, reduceMul]
     refine ze zf _ ?_
     simp +decide only [heq, zb, za, hpin, go_sem, reduceAdd, reduceMul]
   | true =>
   simp +decide only [hc, if_true] at heq
   have hge : 0 <= xE p.fns x.name := by
     unfold YE at hc
     exact of_decide_eq_true (Bool.and_eq_true_iff.1 hc).1
   simp +decide only [zb, za, hpin, go_sem, reduceAdd, reduceMul]
   refine Tri.sched zf [(0, true), (3, true), (1, true), (2, true), (4, false), (5, false), (6, false), (7, false), (8, false), (9, false)] zV (by kernel_rfl) (fun C2 hC2 => ?_)
   have hp2 := zY hC2 hpin
   simp +decide only [zb, za, hp2, go_sem, reduceAdd, reduceMul]
   refine zd hfa hp2 ?_
   generalize xE p.fns x.name = at_ at hrg hge heq |-
   obtain ⟨m, rfl⟩ : ∃ m : Nat, at_ = m := ⟨at_.toNat, by omega⟩
   have hml : m < p.fns.length := by rcases hrg with h | h <;> omega
   have hy : (rows (fnC true) p.fns).getD m [] = fnC true p.fns[m] := zh _ _ hml
   have hc2 : ((m : Int) < (p.fns.length : Int)) = True := eq_true (by omega)
   rw [yS hml] at heq
   simp +decide only [hy, hc2, heq, fnC, Int.natCast_nonneg, zb, za, hp2, hpin, go_sem, reduceAdd, reduceMul]
 | false =>
 simp +decide only [h1, h7, h2, h3, h4, h5, h6, h8, h9, h10, h11, h12, Bool.or_false, Bool.false_or, if_false, Bool.false_eq_true] at heq
 simp +decide only [h1, h7, h2, h3, h4, h5, h6, h8, h9, h10, h11, h12, zg, zb, za, hpin, go_sem, reduceAdd, reduceMul]
 refine ze zf _ ?_
 simp +decide only [heq, zb, za, hpin, go_sem, reduceAdd, reduceMul]
section
variable {P : Program} {w w1 : World} {C : Cx} {X : Nat -> Prop} {gh gh1 : Gh} {st : St} {a : Act} {v : V} {u : Value} {ob : List (Nat × Ob)} {S : Nat -> Prop} {K : St -> Prop}
theorem Ow.plainc {e : TypeId} {es : List (List D)} {F : Nat -> Prop} (h : Ow P w S (.row true e es) u F) : Ow P w S (.sc u) u F := by
 cases h with
 | shared h => exact .sc h.one
theorem Tri.plain (o j : Nat) {cs : List D} {e : TypeId} {es : List (List D)} {c : Code} {Q : Exit -> St -> Prop} (ho : look st.ob o = some (.box cs)) (hj : cs[j]? = some (.row true e es)) (hh : ∀ z : Value, Tri P C (st.swap o (.box (cs.set j (.sc z)))) c Q) : Tri P C st c Q := fun a w gh h => by
 have hbF : gh.F o (gh.bb o) := by cases h.obs o _ ho with | box xs G hb hl h1 hc hx dis nb hF => exact (hF _).2 (Or.inl rfl)
 have hob := h.obs o _ ho
 have g1 : (gh.upd o (gh.hv o) (gh.bb o) (gh.bo o) (gh.F o)).F o = gh.F o := by simp [Gh.upd]
 have g2 : (gh.upd o (gh.hv o) (gh.bb o) (gh.bo o) (gh.F o)).bb o = gh.bb o := by simp [Gh.upd]
 have g3 : (gh.upd o (gh.hv o) (gh.bb o) (gh.bo o) (gh.F o)).bo o = gh.bo o := by simp [Gh.upd]
 cases hob with
 | box xs G hb hl h1 hc hx dis nb hF =>
   refine hh (xs.getD j undef) a w _ (h.swap (F := gh.F o) ho (by simp [Ob.like]) (Nat.le_refl _) (fun _ _ _ _ _ _ => rfl) (fun _ _ => rfl) (World.keptBut_refl w _) ?_ (fun k hk => Or.inl hk) (fun k hk => ⟨Or.inr hk, h.xF o _ k ho hk⟩) (fun cs' k _ hk he => h.xF o _ k ho hk (he ▸ hbF)))
   have back : ∀ q d, (cs.set j (.sc (xs.getD j undef)))[q]? = some d -> ∃ d0, cs[q]? = some d0 := fun q d hd => by
     rw [List.getElem?_set] at hd
     split at hd
     · rename_i ejq; subst ejq; exact ⟨_, hj⟩
     · exact ⟨d, hd⟩
   refine ObR.box xs G (by rw [g2]; exact hb) (by rw [List.length_set]; exact hl) h1 (by rw [g2, g3]; exact hc) (fun q d hd => ?_) (fun q q' d d' k hd hd' => ?_) (fun q d k hd hk => ?_) (fun k => ?_)
   · rw [List.getElem?_set] at hd
     split at hd
     · rename_i ejq
       subst ejq
       split at hd
       · cases hd; exact (hx j _ hj).plainc
       · cases hd
     · exact hx q d hd
   · obtain ⟨d0, h0⟩ := back _ _ hd
     obtain ⟨d1, h2⟩ := back _ _ hd'
     exact dis q q' d0 d1 k h0 h2
   · obtain ⟨d0, h0⟩ := back _ _ hd
     rw [g2]; exact nb q d0 k h0 hk
   · rw [g1, g2, hF k]
     constructor
     · rintro (hh | ⟨q, d, hd, hk⟩)
       · exact Or.inl hh
       · right
         by_cases eq : j = q
         · subst eq
           exact ⟨j, .sc (xs.getD j undef), by rw [List.getElem?_set_self (List.getElem?_eq_some_iff.1 hd).1], hk⟩
         · exact ⟨q, d, by rw [List.getElem?_set_ne eq]; exact hd, hk⟩
     · rintro (hh | ⟨q, d, hd, hk⟩)
       · exact Or.inl hh
       · obtain ⟨d0, h0⟩ := back _ _ hd
         exact Or.inr ⟨q, d0, h0, hk⟩
end
theorem zpM (p : ProgramD) (l : List VarD) (n : Nat) (hnl : n < p.nodes.length) (hpos : 1 < p.nodes[n].kids.length)
   (ih : ∀ kid ∈ p.nodes[n].kids, zu Tryz.prog 58 [.ro (zb p), .ro (.imm 96 (rows (varC true) l)), .ro (.sc (.int .i64 kid))] (fun rs st => rs = [(false, [cI (yl p l kid)])])) :
   zu Tryz.prog 136 [.ro (zb p), .ro (.imm 96 (rows (varC true) l)), .ro (.sc (.int .i64 n))] (fun rs st => rs = [(false, [cB (yl p l (p.nodes[n].kids.getD 0 0) == 1 && yl p l (p.nodes[n].kids.getD 1 0) == 1)])]) := by
 have hx : (rows (zg true) p.nodes).getD n [] = zg true p.nodes[n] := zh _ _ hnl
 have hc1 : ((n : Int) < (p.nodes.length : Int)) = True := eq_true (by omega)
 generalize p.nodes[n] = x at hx ih hpos |-
 have hk0 : x.kids.getD 0 0 = x.kids[0]'(by omega) := by simp [List.getD, show 0 < x.kids.length by omega]
 have hk1 : x.kids.getD 1 0 = x.kids[1] := by simp [List.getD, hpos]
 rw [hk0, hk1]
 have hg0 : (row1 cI x.kids).getD (Int.toNat 0) [] = [cI (x.kids[0]'(by omega))] := zq cI x.kids (by omega)
 have hg1 : (row1 cI x.kids).getD (Int.toNat 1) [] = [cI x.kids[1]] := zq cI x.kids hpos
 have hc0 : ((0 : Int) < (x.kids.length : Int)) = True := eq_true (by omega)
 have hc01 : ((1 : Int) < (x.kids.length : Int)) = True := eq_true (by omega)
 have hih := ih (x.kids[0]'(by omega)) (List.getElem_mem _)
 have hih1 := ih x.kids[1] (List.getElem_mem hpos)
 simp only [cI] at hg0 hg1
 simp only [zb] at hih hih1
 refine zm (fn := Tryz.f136) (c := Tryz.f136.body.getD .skip) (res := [.tm 6]) (n := 31) zf (by kernel_rfl) (by rfl) (by kernel_rfl) (by rfl) (by rfl) (by simp [zp]) (fun uf ub C hpin hpin2 hfull => ?_)
 simp only [Tryz.f136, Option.getD_some]
 refine Tri.step zf ?_
 simp +decide only [zb, za, hpin, go_sem, reduceAdd, reduceMul]
 refine Tri.ent ?_ (Ent.frb hfull 3)
 refine Tri.step zf ?_
 simp +decide only [hc1, hx, zg, Int.natCast_nonneg, zb, za, hpin, go_sem, reduceAdd, reduceMul]
 refine Tri.ent ?_ (Ent.frb hfull 7)
 refine Tri.step zf ?_
 simp +decide only [zb, za, hpin, go_sem, reduceAdd, reduceMul]
 refine Tri.sched zf [(1, true), (2, true), (0, true), (3, false), (4, false), (5, false), (6, false), (7, false), (8, false), (10, true), (11, true), (9, true), (12, false), (13, false), (14, false), (15, false), (16, false), (17, false), (18, false)] zV (by kernel_rfl) (fun C2 hC2 => ?_)
 have hp2 := zY hC2 hpin
 simp +decide only [hg0, hc0, hpos, zg, zb, za, hp2, go_sem, reduceAdd, reduceMul]
 refine zd hih hp2 ?_
 cases hT : yl p l (x.kids[0]'(by omega)) == 1 with
 | false =>
   simp +decide only [hT, hg0, hg1, hc0, hc01, hpos, zb, za, hp2, hpin, go_sem, reduceAdd, reduceMul]
   refine ze zf _ ?_
   simp +decide only [zb, za, hpin, go_sem, reduceAdd, reduceMul]
 | true =>
 simp +decide only [hT, hg0, hg1, hc0, hc01, hpos, zb, za, hp2, go_sem, reduceAdd, reduceMul]
 refine zd hih1 hp2 ?_
 simp +decide only [zb, za, hp2, hpin, go_sem, reduceAdd, reduceMul]
 refine ze zf _ ?_
 simp +decide only [zb, za, hpin, go_sem, reduceAdd, reduceMul]
def sigR (ok : Bool) (q : ByteArray × Value × Int × Int × Int) : List RV := [(true, [cS q.1, .sc q.2.1, cI q.2.2.1, cI q.2.2.2.1, cI q.2.2.2.2]), (false, [cB ok])]
theorem zom (p : ProgramD) (l : List VarD) (hf : p.fns.length <= 1048576) (hk : ∀ x ∈ p.nodes, x.kids.length <= 300) (n : Nat) (hnl : n < p.nodes.length)
   (ih : ∀ kid ∈ p.nodes[n].kids, zu Tryz.prog 58 [.ro (zb p), .ro (.imm 96 (rows (varC true) l)), .ro (.sc (.int .i64 kid))] (fun rs st => rs = [(false, [cI (yl p l kid)])])) :
   zu Tryz.prog 137 [.ro (zb p), .ro (.imm 96 (rows (varC true) l)), .ro (.sc (.int .i64 n))] (fun rs st => ∃ q, (YE (yl p l) p p.nodes[n] = true -> q.2.2.1 = (fAt p.fns (xE p.fns p.nodes[n].name)).res) /\ rs = sigR (YE (yl p l) p p.nodes[n]) q) := by
 have hkx := hk p.nodes[n] (List.getElem_mem hnl)
 have hx : (rows (zg true) p.nodes).getD n [] = zg true p.nodes[n] := zh _ _ hnl
 have hc1 : ((n : Int) < (p.nodes.length : Int)) = True := eq_true (by omega)
 generalize p.nodes[n] = x at hkx hx ih
 have hfa := zaE p x.name hf
 have hrg := ZZ x.name p.fns 0
 have hfe : xE p.fns x.name = zbr x.name p.fns 0 := rfl
 rw [<- hfe] at hrg
 simp only [zb] at hfa ih
 unfold YE
 refine zm (fn := Tryz.f137) (c := Tryz.f137.body.getD .skip) (res := [.ce 6 104, .tm 7]) (n := 68) zf (by kernel_rfl) (by rfl) (by kernel_rfl) (by rfl) (by rfl) (by simp [zp]) (fun uf ub C hpin hpin2 hfull => ?_)
 simp only [Tryz.f137, Option.getD_some]
 refine Tri.step zf ?_
 simp +decide only [zb, za, hpin, go_sem, reduceAdd, reduceMul]
 refine Tri.ent ?_ (Ent.frb hfull 3)
 refine Tri.step zf ?_
 simp +decide only [hc1, hx, zg, Int.natCast_nonneg, zb, za, hpin, go_sem, reduceAdd, reduceMul]
 refine Tri.ent ?_ (Ent.frb hfull 8)
 refine Tri.step zf ?_
 simp +decide only [zb, za, hpin, go_sem, reduceAdd, reduceMul]
 refine zd hfa hpin ?_
 generalize xE p.fns x.name = at_ at hrg |-
 simp +decide only [zb, za, hpin, go_sem, reduceAdd, reduceMul]
 refine Tri.step zf ?_
 refine ze zf _ ?_
 simp +decide only [zb, za, hpin, go_sem, reduceAdd, reduceMul]
 refine Tri.sched zf [(0, false), (1, false), (2, false), (3, true), (5, true), (10, true), (4, true), (6, true), (7, true), (8, true), (9, true), (11, false), (12, false), (13, false), (14, false)] zV (by kernel_rfl) (fun C2 hC2 => ?_)
 have hp2 := zY hC2 hpin
 by_cases ha : at_ < 0
 · have c1 : (at_ < 0) = True := eq_true ha
   have c2 : decide (0 <= at_) = false := decide_eq_false (by omega)
   rcases zea p.fns at_.toNat with ⟨y, hy⟩ | hy
   · simp +decide only [c1, c2, hy, fnC, zg, zb, za, hp2, hpin, go_sem, reduceAdd, reduceMul]
     exact ⟨(⟨#[]⟩, .slice none 0 0, 0, 0, 0), fun hh => absurd hh.1 (by omega), rfl⟩
   · simp +decide only [c1, c2, hy, zg, zb, za, hp2, hpin, go_sem, reduceAdd, reduceMul]
     exact ⟨(⟨#[]⟩, .slice none 0 0, 0, 0, 0), fun hh => absurd hh.1 (by omega), rfl⟩
 have c1 : (at_ < 0) = False := eq_false ha
 have c2 : decide (0 <= at_) = true := decide_eq_true (by omega)
 obtain ⟨m, rfl⟩ : ∃ m : Nat, at_ = m := ⟨at_.toNat, by omega⟩
 have hml : m < p.fns.length := by rcases hrg with h | h <;> omega
 have hy : (rows (fnC true) p.fns).getD m [] = fnC true p.fns[m] := zh _ _ hml
 have hc2 : ((m : Int) < (p.fns.length : Int)) = True := eq_true (by omega)
 rw [yS hml]
 generalize p.fns[m] = y at hy
 cases hlen : (y.params.length : Int) == (x.kids.length : Int) with
 | false =>
   simp +decide only [c1, c2, hy, hc2, hlen, fnC, zg, bne, Int.natCast_nonneg, zb, za, hp2, hpin, go_sem, reduceAdd, reduceMul]
   exact ⟨(⟨#[]⟩, .slice none 0 0, 0, 0, 0), fun hh => absurd hh.1 (by simpa using hlen), rfl⟩
 | true =>
 have hle := eq_of_beq hlen
 simp +decide only [c1, c2, hy, hc2, hlen, fnC, zg, bne, Int.natCast_nonneg, zb, za, hp2, hpin, go_sem, reduceAdd, reduceMul]
 refine Tri.step zf ?_
 simp +decide only [zg, zb, za, hpin, go_sem, reduceAdd, reduceMul]
 refine Tri.loop (ι := Nat) (fun i => i <= x.kids.length /\ zJ (fun i => yl p l (x.kids.getD i 0) == prTy y.params i) i = true) (fun i => ⟨68, [(1, .imm 96 (rows (varC true) l)), (3, .ip (za true p) 0), (6, .bp 6 0), (7, vB false), (8, .ip (zg true x) 0), (9, vI m), (10, vI i)], [(6, .box [.sc (.string ⟨#[]⟩), .sc (.slice none 0 0), cI 0, cI 0, cI 0])]⟩) (fun i => x.kids.length - i) 0 ⟨by simp, rfl⟩ ?_ ?_
 · refine Ent.weak ?_ ?_ ?_ ?_ <;> simp +decide [subT, subB, zk, zj, zl, St.get, look, vI, vB, vS, cI, cS, cB, zg, za, roI]
 · rintro i ⟨hi, hq⟩
   refine ze zf _ ?_
   by_cases h' : i < x.kids.length
   · have e : ((i : Int) < (x.kids.length : Int)) = True := by simp [h']
     have hip : i < y.params.length := by omega
     have e2 : ((i : Int) < (y.params.length : Int)) = True := eq_true (by omega)
     have hg : x.kids.getD i 0 = x.kids[i] := by simp [List.getD, h']
     have hpt := zjx hip
     have hz : (rows (zr true) y.params).getD i [] = zr true y.params[i] := zh _ _ hip
     have hih := ih x.kids[i] (List.getElem_mem h')
     simp +decide only [e, zg, za, vB, vI, zb, za, hpin, go_sem, reduceAdd, reduceMul]
     refine Tri.sched zf [(1, true), (2, true), (4, true), (8, true), (10, true), (14, true), (0, true), (3, true), (5, true), (6, true), (9, true), (11, true), (12, true), (13, true), (15, true), (16, true), (17, true), (7, false), (18, false)] zV (by kernel_rfl) (fun C3 hC3 => ?_)
     have hp3 := zY hC3 hpin
     simp +decide only [e, e2, h', zq _ _ h', hy, hc2, hz, fnC, zr, Int.natCast_nonneg, zb, za, hp3, go_sem, reduceAdd, reduceMul]
     refine zd hih hp3 ?_
     cases hc : yl p l x.kids[i] == y.params[i].ty with
     | false =>
       have hff : zJ (fun i => yl p l (x.kids.getD i 0) == prTy y.params i) x.kids.length = false := zw h' (by simp only [hg, hpt, hc])
       simp +decide only [hc, hff, bne, zb, za, hp3, hpin, go_sem, reduceAdd, reduceMul]
       exact ⟨(⟨#[]⟩, .slice none 0 0, 0, 0, 0), rfl⟩
     | true =>
       simp +decide only [hc, bne, zb, za, hp3, hpin, go_sem, reduceAdd, reduceMul]
       refine ⟨i + 1, ⟨h', by rw [zN, hq, hg, hpt, hc]; rfl⟩, by omega, Ent.weak ?_ ?_ ?_ ?_⟩
       all_goals simp +decide [subT, subB, zk, zj, zl, St.get, look, vI, vB, vS, cI, cS, cB, zg, za, roI, w64s (n := x.kids.length) h' (by omega)]
   · have hil : i = x.kids.length := by omega
     subst hil
     have e : ((x.kids.length : Int) < (x.kids.length : Int)) = False := by simp
     simp +decide only [e, zg, vB, vI, zb, za, hpin, go_sem, reduceAdd, reduceMul]
     refine Tri.step zf ?_
     simp +decide only [hy, hc2, fnC, Int.natCast_nonneg, zb, za, hpin, go_sem, reduceAdd, reduceMul]
     refine Tri.plain 6 1 (cs := fnC true y) rfl rfl (fun z => ?_)
     refine ze zf _ ?_
     simp +decide only [hq, fnC, zb, za, hpin, go_sem, reduceAdd, reduceMul]
     exact ⟨(y.name, z, y.res, y.body, y.ret), fun _ => rfl, rfl⟩
theorem YH (p : ProgramD) (hD : Deep p.nodes) (l : List VarD) (hl : l.length <= 4194304) (hf : p.fns.length <= 1048576) (hn : p.nodes.length <= 1048576) (hk : ∀ x ∈ p.nodes, x.kids.length <= 300) (n : Nat) : n < p.nodes.length ->
   zu Tryz.prog 58 [.ro (zb p), .ro (.imm 96 (rows (varC true) l)), .ro (.sc (.int .i64 n))] (fun rs st => rs = [(false, [cI (yl p l n)])]) := by
 induction n using Nat.strongRecOn with
 | ind n ih =>
 intro hnl
 have hkid := hD.kid hnl
 have hkx := hk p.nodes[n] (List.getElem_mem hnl)
 have hsh := zx (xP (hD.deep n hnl) hnl)
 have hrec : ∀ kid ∈ p.nodes[n].kids, zu Tryz.prog 58 [.ro (zb p), .ro (.imm 96 (rows (varC true) l)), .ro (.sc (.int .i64 kid))] (fun rs st => rs = [(false, [cI (yl p l kid)])]) := fun kid hkk => by
   obtain ⟨q0, q1, q2⟩ := hkid kid hkk
   have e : kid = (kid.toNat : Int) := by omega
   have := ih kid.toNat q2 (by omega)
   rw [<- e] at this
   exact this
 have hcr := zom p l hf hk n hnl hrec
 have htw := fun hpos => zpM p l n hnl hpos hrec
 have heq := zjn hD l hnl
 have hx : (rows (zg true) p.nodes).getD n [] = zg true p.nodes[n] := zh _ _ hnl
 have hc1 : ((n : Int) < (p.nodes.length : Int)) = True := eq_true (by omega)
 generalize yl p l n = R at heq |-
 generalize p.nodes[n] = x at hkid hkx hsh hrec hcr heq hx htw
 have hvt := zbY l x.name hl
 simp only [zb] at hrec hcr htw
 unfold zih at heq
 generalize XY l x.name = tv at heq hvt
 refine zm (fn := Tryz.f58) (c := Tryz.f58.body.getD .skip) (res := [.tm 6]) (n := 83) zf (by kernel_rfl) (by rfl) (by kernel_rfl) (by rfl) (by rfl) (by simp [zp]) (fun uf ub C hpin hpin2 hfull => ?_)
 simp only [Tryz.f58, Option.getD_some]
 refine Tri.step zf ?_
 simp +decide only [zb, za, hpin, go_sem, reduceAdd, reduceMul]
 refine Tri.ent ?_ (Ent.frb hfull 3)
 refine Tri.step zf ?_
 simp +decide only [hc1, hx, zg, Int.natCast_nonneg, zb, za, hpin, go_sem, reduceAdd, reduceMul]
 refine Tri.ent ?_ (Ent.frb hfull 7)
 refine Tri.step zf ?_
 simp +decide only [zb, za, hpin, go_sem, reduceAdd, reduceMul]
 refine zd hvt hpin ?_
 simp +decide only [zb, za, hpin, go_sem, reduceAdd, reduceMul]
 refine Tri.stop zf ⟨83, [(1, .imm 96 (rows (varC true) l)), (2, vI n), (3, .ip (za true p) 0), (7, .ip (zg true x) 0), (8, vI tv), (9, vB (zhE tv))], []⟩ ?_ ?_
 · unfold zhE
   cases t2 : tv == 2 with
   | true => simp +decide only [t2, Bool.true_or, Bool.false_or, zg, zb, za, hpin, go_sem, reduceAdd, reduceMul]; refine Ent.weak ?_ ?_ ?_ ?_ <;> simp +decide [subT, subB, zk, zj, zl, St.get, look, vI, vB, vS, cI, cS, cB, zg, za, roI, t2]
   | false =>
   cases t3 : tv == 3 with
   | true => simp +decide only [t2, t3, Bool.true_or, Bool.false_or, zg, zb, za, hpin, go_sem, reduceAdd, reduceMul]; refine Ent.weak ?_ ?_ ?_ ?_ <;> simp +decide [subT, subB, zk, zj, zl, St.get, look, vI, vB, vS, cI, cS, cB, zg, za, roI, t2, t3]
   | false =>
   cases t4 : tv == 4 with
   | true => simp +decide only [t2, t3, t4, Bool.true_or, Bool.false_or, zg, zb, za, hpin, go_sem, reduceAdd, reduceMul]; refine Ent.weak ?_ ?_ ?_ ?_ <;> simp +decide [subT, subB, zk, zj, zl, St.get, look, vI, vB, vS, cI, cS, cB, zg, za, roI, t2, t3, t4]
   | false => simp +decide only [t2, t3, t4, Bool.true_or, Bool.false_or, zg, zb, za, hpin, go_sem, reduceAdd, reduceMul]; refine Ent.weak ?_ ?_ ?_ ?_ <;> simp +decide [subT, subB, zk, zj, zl, St.get, look, vI, vB, vS, cI, cS, cB, zg, za, roI, t2, t3, t4]
 refine Tri.step zf ?_
 cases h1 : x.kind == 1 with
 | true =>
   have ek := eq_of_beq h1
   rw [ek] at heq
   simp +decide only [Bool.or_true, Bool.true_or, Bool.or_false, Bool.false_or, if_true, if_false, Int.reduceBEq, Bool.false_eq_true] at heq
   simp +decide only [h1, heq, za, vB, vI, zg, zb, za, hpin, go_sem, reduceAdd, reduceMul]
 | false =>
 cases h7 : x.kind == 7 with
 | true =>
   have ek := eq_of_beq h7
   rw [ek] at heq
   simp +decide only [Bool.or_true, Bool.true_or, Bool.or_false, Bool.false_or, if_true, if_false, Int.reduceBEq, Bool.false_eq_true] at heq
   simp +decide only [h1, h7, heq, za, vB, vI, zg, zb, za, hpin, go_sem, reduceAdd, reduceMul]
 | false =>
 cases h2 : x.kind == 2 with
 | true =>
   have ek := eq_of_beq h2
   rw [ek] at heq
   simp +decide only [Bool.or_true, Bool.true_or, Bool.or_false, Bool.false_or, if_true, if_false, Int.reduceBEq, Bool.false_eq_true] at heq
   simp +decide only [h1, h7, h2, heq, za, vB, vI, zg, zb, za, hpin, go_sem, reduceAdd, reduceMul]
 | false =>
 cases h3 : x.kind == 3 with
 | true =>
   have ek := eq_of_beq h3
   rw [ek] at heq
   simp +decide only [Bool.or_true, Bool.true_or, Bool.or_false, Bool.false_or, if_true, if_false, Int.reduceBEq, Bool.false_eq_true] at heq
   cases hh : zhE tv with
   | true =>
     simp +decide only [hh, if_true] at heq
     simp +decide only [h1, h7, h2, h3, hh, heq, za, vB, vI, zg, zb, za, hpin, go_sem, reduceAdd, reduceMul]
   | false =>
   simp +decide only [hh, if_false, Bool.false_eq_true] at heq
   simp +decide only [h1, h7, h2, h3, hh, za, vB, vI, zg, zb, za, hpin, go_sem, reduceAdd, reduceMul]
   refine ze zf _ ?_
   simp +decide only [heq, zb, za, hpin, go_sem, reduceAdd, reduceMul]
 | false =>
 cases h4 : x.kind == 4 with
 | true =>
   have ek := eq_of_beq h4
   rw [ek] at heq
   simp +decide only [Bool.or_true, Bool.true_or, Bool.or_false, Bool.false_or, if_true, if_false, Int.reduceBEq, Bool.false_eq_true] at heq
   cases hh : zhE tv with
   | true =>
     simp +decide only [hh, if_true] at heq
     simp +decide only [h1, h7, h2, h3, h4, hh, heq, za, vB, vI, zg, zb, za, hpin, go_sem, reduceAdd, reduceMul]
   | false =>
   simp +decide only [hh, if_false, Bool.false_eq_true] at heq
   simp +decide only [h1, h7, h2, h3, h4, hh, za, vB, vI, zg, zb, za, hpin, go_sem, reduceAdd, reduceMul]
   refine ze zf _ ?_
   simp +decide only [heq, zb, za, hpin, go_sem, reduceAdd, reduceMul]
 | false =>
 cases h5 : x.kind == 5 with
 | true =>
   have ek := eq_of_beq h5
   rw [ek] at heq
   simp +decide only [Bool.or_true, Bool.true_or, Bool.or_false, Bool.false_or, if_true, if_false, Int.reduceBEq, Bool.false_eq_true] at heq
   cases t2 : tv == 2 with
   | true =>
     simp +decide only [t2, if_true] at heq
     simp +decide only [h1, h7, h2, h3, h4, h5, t2, heq, za, vB, vI, zg, zb, za, hpin, go_sem, reduceAdd, reduceMul]
   | false =>
   simp +decide only [t2, if_false, Bool.false_eq_true] at heq
   simp +decide only [h1, h7, h2, h3, h4, h5, t2, za, vB, vI, zg, zb, za, hpin, go_sem, reduceAdd, reduceMul]
   refine ze zf _ ?_
   simp +decide only [heq, zb, za, hpin, go_sem, reduceAdd, reduceMul]
 | false =>
 cases h6 : x.kind == 6 with
 | true =>
   have ek := eq_of_beq h6
   rw [ek] at heq
   simp +decide only [Bool.or_true, Bool.true_or, Bool.or_false, Bool.false_or, if_true, if_false, Int.reduceBEq, Bool.false_eq_true] at heq
   cases t2 : tv == 2 with
   | true =>
     simp +decide only [t2, if_true] at heq
     simp +decide only [h1, h7, h2, h3, h4, h5, h6, t2, heq, za, vB, vI, zg, zb, za, hpin, go_sem, reduceAdd, reduceMul]
   | false =>
   simp +decide only [t2, if_false, Bool.false_eq_true] at heq
   simp +decide only [h1, h7, h2, h3, h4, h5, h6, t2, za, vB, vI, zg, zb, za, hpin, go_sem, reduceAdd, reduceMul]
   refine ze zf _ ?_
   simp +decide only [heq, zb, za, hpin, go_sem, reduceAdd, reduceMul]
 | false =>
 cases h8 : x.kind == 8 with
 | true =>
   have ek := eq_of_beq h8
   rw [ek] at heq
   simp +decide only [Bool.or_true, Bool.true_or, Bool.or_false, Bool.false_or, if_true, if_false, Int.reduceBEq, Bool.false_eq_true] at heq
   have hpos : 0 < x.kids.length := by rw [ek] at hsh; have := hsh.1; simp [zG] at this; omega
   have hg0 : (row1 cI x.kids).getD (Int.toNat 0) [] = [cI x.kids[0]] := zq cI x.kids hpos
   have hc0 : ((0 : Int) < (x.kids.length : Int)) = True := eq_true (by omega)
   have hk0 : x.kids.getD 0 0 = x.kids[0] := by simp [List.getD, hpos]
   have hih := hrec x.kids[0] (List.getElem_mem hpos)
   rw [hk0] at heq
   simp only [cI] at hg0
   simp +decide only [h1, h7, h2, h3, h4, h5, h6, h8, za, vB, vI, zg, zb, za, hpin, go_sem, reduceAdd, reduceMul]
   refine Tri.sched zf [(1, true), (2, true), (0, true), (3, false), (4, false), (5, false), (6, false), (7, false)] zV (by kernel_rfl) (fun C2 hC2 => ?_)
   have hp2 := zY hC2 hpin
   simp +decide only [hg0, hc0, hpos, zb, za, hp2, go_sem, reduceAdd, reduceMul]
   refine zd hih hp2 ?_
   cases hT : yl p l x.kids[0] == 1 with
   | true =>
     simp +decide only [hT, if_true] at heq
     simp +decide only [hT, heq, zb, za, hp2, hpin, go_sem, reduceAdd, reduceMul]
   | false =>
   simp +decide only [hT, if_false, Bool.false_eq_true] at heq
   simp +decide only [hT, zb, za, hp2, hpin, go_sem, reduceAdd, reduceMul]
   refine ze zf _ ?_
   simp +decide only [heq, zb, za, hpin, go_sem, reduceAdd, reduceMul]
 | false =>
 cases h9 : x.kind == 9 with
 | true =>
   have ek := eq_of_beq h9
   rw [ek] at heq
   simp +decide only [Bool.or_true, Bool.true_or, Bool.or_false, Bool.false_or, if_true, if_false, Int.reduceBEq, Bool.false_eq_true] at heq
   have hpos : 1 < x.kids.length := by rw [ek] at hsh; have := hsh.1; simp [zG] at this; omega
   have htw2 := htw hpos
   simp +decide only [h1, h7, h2, h3, h4, h5, h6, h8, h9, za, vB, vI, zg, zb, za, hpin, go_sem, reduceAdd, reduceMul]
   refine zd htw2 hpin ?_
   cases hT : yl p l (x.kids.getD 0 0) == 1 && yl p l (x.kids.getD 1 0) == 1 with
   | true =>
     rw [hT, if_pos rfl] at heq
     simp +decide only [heq, zb, za, hpin, go_sem, reduceAdd, reduceMul]
   | false =>
   rw [hT, if_neg (by decide)] at heq
   simp +decide only [zb, za, hpin, go_sem, reduceAdd, reduceMul]
   refine ze zf _ ?_
   simp +decide only [heq, zb, za, hpin, go_sem, reduceAdd, reduceMul]
 | false =>
 cases h10 : x.kind == 10 with
 | true =>
   have ek := eq_of_beq h10
   rw [ek] at heq
   simp +decide only [Bool.or_true, Bool.true_or, Bool.or_false, Bool.false_or, if_true, if_false, Int.reduceBEq, Bool.false_eq_true] at heq
   have hpos : 1 < x.kids.length := by rw [ek] at hsh; have := hsh.1; simp [zG] at this; omega
   have htw2 := htw hpos
   simp +decide only [h1, h7, h2, h3, h4, h5, h6, h8, h9, h10, za, vB, vI, zg, zb, za, hpin, go_sem, reduceAdd, reduceMul]
   refine zd htw2 hpin ?_
   cases hT : yl p l (x.kids.getD 0 0) == 1 && yl p l (x.kids.getD 1 0) == 1 with
   | true =>
     rw [hT, if_pos rfl] at heq
     simp +decide only [heq, zb, za, hpin, go_sem, reduceAdd, reduceMul]
   | false =>
   rw [hT, if_neg (by decide)] at heq
   simp +decide only [zb, za, hpin, go_sem, reduceAdd, reduceMul]
   refine ze zf _ ?_
   simp +decide only [heq, zb, za, hpin, go_sem, reduceAdd, reduceMul]
 | false =>
 cases h11 : x.kind == 11 with
 | true =>
   have ek := eq_of_beq h11
   rw [ek] at heq
   simp +decide only [Bool.or_true, Bool.true_or, Bool.or_false, Bool.false_or, if_true, if_false, Int.reduceBEq, Bool.false_eq_true] at heq
   have hpos : 1 < x.kids.length := by rw [ek] at hsh; have := hsh.1; simp [zG] at this; omega
   have htw2 := htw hpos
   simp +decide only [h1, h7, h2, h3, h4, h5, h6, h8, h9, h10, h11, za, vB, vI, zg, zb, za, hpin, go_sem, reduceAdd, reduceMul]
   refine zd htw2 hpin ?_
   cases hT : yl p l (x.kids.getD 0 0) == 1 && yl p l (x.kids.getD 1 0) == 1 with
   | true =>
     rw [hT, if_pos rfl] at heq
     simp +decide only [heq, zb, za, hpin, go_sem, reduceAdd, reduceMul]
   | false =>
   rw [hT, if_neg (by decide)] at heq
   simp +decide only [zb, za, hpin, go_sem, reduceAdd, reduceMul]
   refine ze zf _ ?_
   simp +decide only [heq, zb, za, hpin, go_sem, reduceAdd, reduceMul]
 | false =>
 cases h12 : x.kind == 12 with
 | true =>
   have ek := eq_of_beq h12
   rw [ek] at heq
   simp +decide only [Bool.or_true, Bool.true_or, Bool.or_false, Bool.false_or, if_true, if_false, Int.reduceBEq, Bool.false_eq_true] at heq
   simp +decide only [h1, h7, h2, h3, h4, h5, h6, h8, h9, h10, h11, h12, za, vB, vI, zg, zb, za, hpin, go_sem, reduceAdd, reduceMul]
   refine zkf hcr hpin ?_ ?_
   · simp +decide only [zb, za, hpin, go_sem, reduceAdd, reduceMul]
   rintro ⟨qa, qz, qr, qb, qc⟩ hq
   unfold sigR
   cases hc : YE (yl p l) p x with
   | false =>
     rw [hc, if_neg (by decide)] at heq
     simp +decide only [zb, za, hpin, go_sem, reduceAdd, reduceMul]
     refine ze zf _ ?_
     simp +decide only [heq, zb, za, hpin, go_sem, reduceAdd, reduceMul]
   | true =>
   have hqr : qr = (fAt p.fns (xE p.fns x.name)).res := hq hc
   rw [hc, if_pos rfl, <- hqr] at heq
   simp +decide only [heq, zb, za, hpin, go_sem, reduceAdd, reduceMul]
 | false =>
 simp +decide only [h1, h7, h2, h3, h4, h5, h6, h8, h9, h10, h11, h12, Bool.or_false, Bool.false_or, if_false, Bool.false_eq_true] at heq
 simp +decide only [h1, h7, h2, h3, h4, h5, h6, h8, h9, h10, h11, h12, za, vB, vI, zg, zb, za, hpin, go_sem, reduceAdd, reduceMul]
 refine ze zf _ ?_
 simp +decide only [heq, zb, za, hpin, go_sem, reduceAdd, reduceMul]
def tyOf (p : ProgramD) (l : List VarD) (v : VarD) : Int := yl p l ((nAt p.nodes v.node).kids.getD 0 0)
def Ys (p : ProgramD) (l : List VarD) (i : Nat) : List VarD := if 0 <= (l.getD i vr0).node then l.set i ⟨(l.getD i vr0).name, tyOf p l (l.getD i vr0), (l.getD i vr0).node⟩ else l
def zZ (p : ProgramD) (l : List VarD) : Nat -> List VarD
 | 0 => l
 | i + 1 => Ys p (zZ p l i) i
def zpJ (p : ProgramD) (l : List VarD) : Prop := ∀ i (h : i < l.length), l[i].node < 0 \/ (l[i].node.toNat < p.nodes.length /\ 0 < (nAt p.nodes l[i].node).kids.length)
theorem ZA (p : ProgramD) (l : List VarD) (i : Nat) : (Ys p l i).length = l.length := by unfold Ys; split <;> simp
theorem zD (p : ProgramD) (l : List VarD) : ∀ i, (zZ p l i).length = l.length
 | 0 => rfl
 | i + 1 => by unfold zZ; rw [ZA, zD p l i]
theorem zcV (p : ProgramD) (l : List VarD) (i j : Nat) (hj : j < l.length) : ((Ys p l i)[j]'(by rw [ZA]; exact hj)).node = l[j].node := by
 unfold Ys
 split
 · simp only [List.getElem_set]
   split
   · rename_i h; subst h; simp [List.getD, hj]
   · rfl
 · rfl
theorem zgz (p : ProgramD) (l : List VarD) (i j : Nat) (hj : j < l.length) (hne : i ≠ j) : (Ys p l i)[j]'(by rw [ZA]; exact hj) = l[j] := by
 unfold Ys
 split
 · simp only [List.getElem_set, if_neg hne]
 · rfl
theorem zcS {p : ProgramD} {l : List VarD} (h : zpJ p l) : ∀ i, zpJ p (zZ p l i)
 | 0 => h
 | i + 1 => fun j hj => by
   have h1 := zcS h i
   have hj2 : j < (zZ p l i).length := by rw [zD] at hj |-; exact hj
   have h2 := h1 j hj2
   have e : ((zZ p l (i + 1))[j]).node = ((zZ p l i)[j]).node := zcV p (zZ p l i) i j hj2
   rw [e]; exact h2
theorem zao (p : ProgramD) (l : List VarD) {j : Nat} (hj : j < l.length) : ∀ i, j < i -> (zZ p l i)[j]'(by rw [zD]; exact hj) = (zZ p l (j + 1))[j]'(by rw [zD]; exact hj)
 | 0, h => by omega
 | i + 1, h => by
   by_cases e : j = i
   · subst e; rfl
   · have h1 := zao p l hj i (by omega)
     rw [<- h1]
     exact zgz p (zZ p l i) i j (by rw [zD]; exact hj) (fun hh => e hh.symm)
def tyB (l : List VarD) (i : Nat) : Bool := !((l.getD i vr0).ty == 0)
noncomputable def zL (p : ProgramD) (fn : Int) : List VarD := zZ p (xq p fn) (xq p fn).length
noncomputable def YZ (p : ProgramD) (fn : Int) : Bool := zJ (tyB (zL p fn)) (zL p fn).length
theorem zlm {p : ProgramD} (hD : Deep p.nodes) (fn : Int) : zpJ p (xq p fn) := by
 have key : ∀ v ∈ xq p fn, v.node < 0 \/ (v.node.toNat < p.nodes.length /\ 0 < (nAt p.nodes v.node).kids.length) := fun v hv => by
   unfold xq at hv
   split at hv
   · rcases List.mem_append.1 hv with hv | hv
     · unfold ya at hv
       obtain ⟨x, _, rfl⟩ := List.mem_map.1 hv
       left; simp [zaf]
     · unfold yY at hv
       obtain ⟨k, hk, hv⟩ := List.mem_flatMap.1 hv
       unfold letV at hv
       split at hv
       · rename_i h13
         simp at hv
         subst hv
         have hm := yF hk
         right
         refine ⟨hm.2.1, ?_⟩
         have hsh := zx (xP (hD.deep _ hm.2.1) hm.2.1)
         rw [xz hm.2.1] at h13 |-
         have ek := eq_of_beq h13
         rw [ek] at hsh
         have := hsh.1
         simp [zG] at this
         omega
       · simp at hv
   · simp at hv
 exact fun i h => key _ (List.getElem_mem h)
theorem zln (l : List VarD) (i : Nat) (x : VarD) : (rows (varC false) l).set i [cS x.name, cI x.ty, cI x.node] = rows (varC false) (l.set i x) := znh (varC false) l i x
theorem zfw (p : ProgramD) (hD : Deep p.nodes) (l : List VarD) (hl : l.length <= 4194304) (hf : p.fns.length <= 1048576) (hn : p.nodes.length <= 1048576) (hk : ∀ x ∈ p.nodes, x.kids.length <= 300) (n : Nat) (hnl : n < p.nodes.length) :
   zu Tryz.prog 67 [.ro (zb p), .ro (.imm 96 (rows (varC true) l)), .ro (.sc (.int .i64 n))] (fun rs st => rs = [(false, [cI (yl p l n)])]) := by
 have hty := YI p hD l hl hf hn hk n hnl
 have hde := zaI p.nodes n hn (fun x hx => by have := hk x hx; omega)
 have hd0 : (zQ p.nodes (n : Int) == 0) = false := by
   have h9 : inI (n : Int) 0 (p.nodes.length - 1) = true := by simp [inI]; omega
   have := hD.deep n hnl
   simp [zQ, h9, this]
 simp only [zb] at hty
 refine zm (fn := Tryz.f67) (c := Tryz.f67.body.getD .skip) (res := [.tm 6]) (n := 16) zf (by kernel_rfl) (by rfl) (by kernel_rfl) (by rfl) (by rfl) (by simp [zp]) (fun uf ub C hpin hpin2 hfull => ?_)
 simp only [Tryz.f67, Option.getD_some]
 refine Tri.step zf ?_
 simp +decide only [zb, za, hpin, go_sem, reduceAdd, reduceMul]
 refine Tri.ent ?_ (Ent.frb hfull 3)
 refine Tri.step zf ?_
 simp +decide only [zb, za, hpin, go_sem, reduceAdd, reduceMul]
 refine zd hde hpin ?_
 simp +decide only [hd0, zb, za, hpin, go_sem, reduceAdd, reduceMul]
 refine ze zf _ ?_
 simp +decide only [zb, za, hpin, go_sem, reduceAdd, reduceMul]
 refine zd hty hpin ?_
 simp +decide only [zb, za, hpin, go_sem, reduceAdd, reduceMul]
theorem zac (p : ProgramD) (hD : Deep p.nodes) (fn : Int) (hf : p.fns.length <= 1048576) (hn : p.nodes.length <= 1048576) (hk : ∀ x ∈ p.nodes, x.kids.length <= 300) (hpl : ∀ f ∈ p.fns, f.params.length <= 1048576) :
   zu Tryz.prog 63 [.ro (zb p), .ro (.sc (.int .i64 fn))] (fun rs st => rs = [(false, [.row false 96 (rows (varC false) (zL p fn))])]) := by
 have hvs := zcO p fn hf hn (fun x hx => by have := hk x hx; omega) hpl
 have hvl := xO p fn hpl hn
 have hok := zlm hD fn
 unfold zL
 generalize xq p fn = l at hvs hvl hok |-
 simp only [zb] at hvs
 refine zm (fn := Tryz.f63) (c := Tryz.f63.body.getD .skip) (res := [.tm 4]) (n := 42) zf (by kernel_rfl) (by rfl) (by kernel_rfl) (by rfl) (by rfl) (by simp [zp]) (fun uf ub C hpin hpin2 hfull => ?_)
 simp only [Tryz.f63, Option.getD_some]
 refine Tri.step zf ?_
 simp +decide only [zb, za, hpin, go_sem, reduceAdd, reduceMul]
 refine Tri.ent ?_ (Ent.frb hfull 2)
 refine Tri.step zf ?_
 simp +decide only [zb, za, hpin, go_sem, reduceAdd, reduceMul]
 refine zd hvs hpin ?_
 simp +decide only [zb, za, hpin, go_sem, reduceAdd, reduceMul]
 refine Tri.step zf ?_
 simp +decide only [zb, za, hpin, go_sem, reduceAdd, reduceMul]
 refine Tri.loop (ι := Nat) (fun i => i <= l.length) (fun i => ⟨42, [(2, .ip (za true p) 0), (5, .ref 5 [] l.length), (11, vI l.length), (12, vI i)], [(5, .row 96 (rows (varC false) (zZ p l i)))]⟩) (fun i => l.length - i) 0 (by simp) ?_ ?_
 · refine Ent.weak ?_ ?_ ?_ ?_ <;> simp +decide [subT, subB, zk, zj, zl, St.get, look, vI, vB, vS, cI, cS, cB, zg, za, roI, zZ]
 · rintro i hi
   refine ze zf _ ?_
   have hpl2 := zD p l i
   by_cases h' : i < l.length
   · have e : ((i : Int) < (l.length : Int)) = True := by simp [h']
     have hok2 := zcS hok i
     have hnx : zZ p l (i + 1) = Ys p (zZ p l i) i := rfl
     generalize zZ p l i = L at hpl2 hok2 hnx
     have hiL : i < L.length := by omega
     have hge : L.getD i vr0 = L[i] := by simp [List.getD, hiL]
     have htk := yq (varC false) L
     rw [hpl2] at htk
     unfold Ys tyOf at hnx
     rw [hge] at hnx
     have hq := Xr (varC false) L hiL
     have hqd := zh (varC false) L hiL
     simp only [varC] at hq hqd
     by_cases hneg : 0 <= L[i].node
     · have c1 : (0 <= L[i].node) = True := eq_true hneg
       obtain ⟨g1, g2⟩ := (hok2 i hiL).resolve_left (by omega)
       rw [if_pos hneg, xz g1] at hnx
       rw [xz g1] at g2
       have c2 : (L[i].node < (p.nodes.length : Int)) = True := eq_true (by omega)
       have hy : (rows (zg true) p.nodes).getD L[i].node.toNat [] = zg true p.nodes[L[i].node.toNat] := zh _ _ g1
       have hkd := hD.kid g1
       generalize p.nodes[L[i].node.toNat] = x at hy g2 hnx hkd
       have hk0 : x.kids.getD 0 0 = x.kids[0] := by simp [List.getD, g2]
       obtain ⟨q0, q1, q2⟩ := hkd x.kids[0] (List.getElem_mem g2)
       obtain ⟨m, hm⟩ : ∃ m : Nat, x.kids[0] = m := ⟨x.kids[0].toNat, by omega⟩
       have hty := zfw p hD L (by omega) hf hn hk m (by omega)
       rw [hk0, hm] at hnx
       have hg0 : (row1 cI x.kids).getD (Int.toNat 0) [] = [cI x.kids[0]] := zq cI x.kids g2
       rw [hm] at hg0
       have hc0 : ((0 : Int) < (x.kids.length : Int)) = True := eq_true (by omega)
       have hvst := zln L i ⟨L[i].name, yl p L m, L[i].node⟩
       rw [<- hnx] at hvst
       simp only [zb] at hty
       simp only [cI, cS] at hvst hg0 hq hqd
       simp +decide only [e, h', c1, hq, hqd, Int.natCast_nonneg, vB, vI, zb, za, hpin, go_sem, reduceAdd, reduceMul]
       refine Tri.sched zf [(0, true), (1, true), (3, true), (4, true), (6, true), (7, true), (8, true), (9, true), (2, true), (5, true), (10, false), (11, false), (12, false), (13, false), (14, false), (15, false), (16, false), (17, false), (18, false), (19, false)] zV (by kernel_rfl) (fun C2 hC2 => ?_)
       have hp2 := zY hC2 hpin
       simp +decide only [e, h', c1, c2, hq, hqd, hy, zg, hg0, hc0, g2, htk, Int.natCast_nonneg, zb, za, hp2, go_sem, reduceAdd, reduceMul]
       refine zd hty hp2 ?_
       simp +decide only [e, hpl2, htk, h', hq, hqd, hvst, Int.natCast_nonneg, zb, za, hp2, hpin, go_sem, reduceAdd, reduceMul]
       refine ⟨i + 1, h', by omega, Ent.weak ?_ ?_ ?_ ?_⟩
       all_goals simp +decide [subT, subB, zk, zj, zl, St.get, look, vI, vB, vS, cI, cS, cB, zg, za, roI, w64s (n := l.length) h' (by omega)]
     · have c1 : (0 <= L[i].node) = False := eq_false hneg
       rw [if_neg hneg] at hnx
       simp +decide only [e, h', c1, hq, hqd, Int.natCast_nonneg, vB, vI, zb, za, hpin, go_sem, reduceAdd, reduceMul]
       refine ⟨i + 1, h', by omega, Ent.weak ?_ ?_ ?_ ?_⟩
       all_goals simp +decide [subT, subB, zk, zj, zl, St.get, look, vI, vB, vS, cI, cS, cB, zg, za, roI, hnx, w64s (n := l.length) h' (by omega)]
   · have hil : i = l.length := by omega
     subst hil
     have e : ((l.length : Int) < (l.length : Int)) = False := by simp
     simp +decide only [e, vB, vI, zb, za, hpin, go_sem, reduceAdd, reduceMul]
     refine ze zf _ ?_
     simp +decide only [hpl2, zb, za, hpin, go_sem, reduceAdd, reduceMul]
theorem zcc (p : ProgramD) (hR : yi p = true) (fn : Nat) (hfn : fn < p.fns.length) (hf : p.fns.length <= 1048576) (hn : p.nodes.length <= 1048576) (hk : ∀ x ∈ p.nodes, x.kids.length <= 1048576) (hpl : ∀ f ∈ p.fns, f.params.length <= 1048576) :
   zu Tryz.prog 117 [.ro (zb p), .ro (.sc (.int .i64 fn))] (fun rs st => rs = if YZ p fn then [(false, [.row false 96 (rows (varC false) (zL p fn))]), (false, [cB true])] else [(false, [.row false 96 []]), (false, [cB false])]) := by
 have hG := yh (Bool.and_eq_true_iff.1 hR).1
 have hk3 : ∀ x ∈ p.nodes, x.kids.length <= 300 := fun x hx => by have := hG.deep.few x hx; omega
 have hvs := zac p hG.deep fn hf hn hk3 hpl
 have hnr := Zj p hf hn hk hpl
 have hvl : (zL p fn).length <= 2097152 := by unfold zL; rw [zD]; exact xO p fn hpl hn
 have hin : inI (fn : Int) 0 (p.fns.length - 1) = true := by simp [inI]; omega
 rw [hR] at hnr
 unfold YZ
 generalize zL p fn = l at hvs hvl |-
 simp only [zb] at hvs hnr
 have w1 : IntKind.i64.wrap ((p.fns.length : Int) - 1) = (p.fns.length : Int) - 1 := w64 (by omega) (by omega)
 refine zm (fn := Tryz.f117) (c := Tryz.f117.body.getD .skip) (res := [.tm 4, .tm 5]) (n := 35) zf (by kernel_rfl) (by rfl) (by kernel_rfl) (by rfl) (by rfl) (by simp [zp]) (fun uf ub C hpin hpin2 hfull => ?_)
 simp only [Tryz.f117, Option.getD_some]
 refine Tri.step zf ?_
 simp +decide only [zb, za, hpin, go_sem, reduceAdd, reduceMul]
 refine Tri.ent ?_ (Ent.frb hfull 2)
 refine Tri.step zf ?_
 simp +decide only [zb, za, hpin, go_sem, reduceAdd, reduceMul]
 refine zd hnr hpin ?_
 simp +decide only [w1, zb, za, hpin, go_sem, reduceAdd, reduceMul]
 refine zd (in' fn 0 (p.fns.length - 1)) hpin ?_
 simp +decide only [hin, zb, za, hpin, go_sem, reduceAdd, reduceMul]
 refine Tri.step zf ?_
 simp +decide only [zb, za, hpin, go_sem, reduceAdd, reduceMul]
 refine zd hvs hpin ?_
 simp +decide only [zb, za, hpin, go_sem, reduceAdd, reduceMul]
 refine Tri.step zf ?_
 simp +decide only [zb, za, hpin, go_sem, reduceAdd, reduceMul]
 have htk := yq (varC false) l
 refine Tri.loop (ι := Nat) (fun i => i <= l.length /\ zJ (tyB l) i = true) (fun i => ⟨35, [(6, .ref 6 [] l.length), (24, .ref 6 [] l.length), (25, vI l.length), (26, vI i)], [(6, .row 96 (rows (varC false) l))]⟩) (fun i => l.length - i) 0 ⟨by simp, rfl⟩ ?_ ?_
 · refine Ent.weak ?_ ?_ ?_ ?_ <;> simp +decide [subT, subB, zk, zj, zl, St.get, look, vI, vB, vS, cI, cS, cB, zg, za, roI]
 · rintro i ⟨hi, hq⟩
   refine ze zf _ ?_
   by_cases h' : i < l.length
   · have e : ((i : Int) < (l.length : Int)) = True := by simp [h']
     have hge : tyB l i = !(l[i].ty == 0) := by simp [tyB, List.getD, h']
     simp +decide only [e, h', Xr _ _ h', zh _ _ h', varC, Int.natCast_nonneg, vB, vI, zb, za, hpin, go_sem, reduceAdd, reduceMul]
     cases hz : l[i].ty == 0 with
     | true =>
       have hff : zJ (tyB l) l.length = false := zw h' (by rw [hge, hz]; rfl)
       rw [hff]
       simp +decide only [hz, zb, za, hpin, go_sem, reduceAdd, reduceMul]
     | false =>
       simp +decide only [hz, zb, za, hpin, go_sem, reduceAdd, reduceMul]
       refine ⟨i + 1, ⟨h', by rw [zN, hq, hge, hz]; rfl⟩, by omega, Ent.weak ?_ ?_ ?_ ?_⟩
       all_goals simp +decide [subT, subB, zk, zj, zl, St.get, look, vI, vB, vS, cI, cS, cB, zg, za, roI, w64s (n := l.length) h' (by omega)]
   · have hil : i = l.length := by omega
     subst hil
     have e : ((l.length : Int) < (l.length : Int)) = False := by simp
     rw [hq]
     simp +decide only [e, vB, vI, zb, za, hpin, go_sem, reduceAdd, reduceMul]
     refine ze zf _ ?_
     simp +decide only [htk, zb, za, hpin, go_sem, reduceAdd, reduceMul]
theorem zbX (p : ProgramD) (hD : Deep p.nodes) (fn : Int) (hf : p.fns.length <= 1048576) (hn : p.nodes.length <= 1048576) (hk : ∀ x ∈ p.nodes, x.kids.length <= 300) (hpl : ∀ f ∈ p.fns, f.params.length <= 1048576) :
   zu Tryz.prog 106 [.ro (zb p), .ro (.sc (.int .i64 fn))] (fun rs st => rs = if YZ p fn then [(false, [.row false 96 (rows (varC false) (zL p fn))]), (false, [cB true])] else [(false, [.row false 96 []]), (false, [cB false])]) := by
 have hvs := zcN p fn hf hn (fun x hx => by have := hk x hx; omega) hpl
 have hvl := xO p fn hpl hn
 have hok := zlm hD fn
 unfold YZ zL
 generalize xq p fn = l at hvs hvl hok |-
 simp only [zb] at hvs
 have hll := zD p l l.length
 have hbad : ∀ i (h : i < l.length), (((zZ p l (i + 1)).getD i vr0).ty == 0) = true -> zJ (tyB (zZ p l l.length)) (zZ p l l.length).length = false := fun i h hz => by
   refine zw (i := i) (by omega) ?_
   have h1 := zao p l h l.length h
   have h2 : (zZ p l (i + 1)).getD i vr0 = (zZ p l (i + 1))[i]'(by rw [zD]; exact h) := by simp [List.getD, zD, h]
   have h3 : (zZ p l l.length).getD i vr0 = (zZ p l l.length)[i]'(by rw [zD]; exact h) := by simp [List.getD, zD, h]
   unfold tyB
   rw [h3, h1, <- h2, hz]; rfl
 have hgood : (∀ i (h : i < l.length), (((zZ p l (i + 1)).getD i vr0).ty == 0) = false) -> zJ (tyB (zZ p l l.length)) (zZ p l l.length).length = true := fun hall => by
   rw [yn]
   intro i hi
   rw [hll] at hi
   have h1 := zao p l hi l.length hi
   have h2 : (zZ p l (i + 1)).getD i vr0 = (zZ p l (i + 1))[i]'(by rw [zD]; exact hi) := by simp [List.getD, zD, hi]
   have h3 : (zZ p l l.length).getD i vr0 = (zZ p l l.length)[i]'(by rw [zD]; exact hi) := by simp [List.getD, zD, hi]
   unfold tyB
   rw [h3, h1, <- h2, hall i hi]; rfl
 refine zm (fn := Tryz.f106) (c := Tryz.f106.body.getD .skip) (res := [.tm 4, .tm 5]) (n := 50) zf (by kernel_rfl) (by rfl) (by kernel_rfl) (by rfl) (by rfl) (by simp [zp]) (fun uf ub C hpin hpin2 hfull => ?_)
 simp only [Tryz.f106, Option.getD_some]
 refine Tri.step zf ?_
 simp +decide only [zb, za, hpin, go_sem, reduceAdd, reduceMul]
 refine Tri.ent ?_ (Ent.frb hfull 2)
 refine Tri.step zf ?_
 simp +decide only [zb, za, hpin, go_sem, reduceAdd, reduceMul]
 refine zd hvs hpin ?_
 simp +decide only [zb, za, hpin, go_sem, reduceAdd, reduceMul]
 refine Tri.step zf ?_
 simp +decide only [zb, za, hpin, go_sem, reduceAdd, reduceMul]
 refine Tri.loop (ι := Nat) (fun i => i <= l.length /\ ∀ j (h : j < l.length), j < i -> (((zZ p l (j + 1)).getD j vr0).ty == 0) = false) (fun i => ⟨50, [(2, .ip (za true p) 0), (6, .ref 6 [] l.length), (7, vI i)], [(6, .row 96 (rows (varC false) (zZ p l i)))]⟩) (fun i => l.length - i) 0 ⟨by simp, fun j hj h0 => by omega⟩ ?_ ?_
 · refine Ent.weak ?_ ?_ ?_ ?_ <;> simp +decide [subT, subB, zk, zj, zl, St.get, look, vI, vB, vS, cI, cS, cB, zg, za, roI, zZ]
 · rintro i ⟨hi, hall⟩
   have hpl2 := zD p l i
   by_cases h' : i < l.length
   · have e : ((i : Int) < (l.length : Int)) = True := by simp [h']
     have hok2 := zcS hok i
     have hnx : zZ p l (i + 1) = Ys p (zZ p l i) i := rfl
     have hnl2 := zD p l (i + 1)
     have hbad2 := hbad i h'
     have hall2 : (((zZ p l (i + 1)).getD i vr0).ty == 0) = false -> ∀ j (h : j < l.length), j < i + 1 -> (((zZ p l (j + 1)).getD j vr0).ty == 0) = false := fun hz j hj hj2 => by
       by_cases ej : j = i
       · subst ej; exact hz
       · exact hall j hj (by omega)
     generalize zJ (tyB (zZ p l l.length)) (zZ p l l.length).length = RB at hbad2 |-
     generalize zZ p l l.length = FL at hbad2 |-
     have hgoal : ∀ j, j = i + 1 -> rows (varC false) (zZ p l j) = rows (varC false) (zZ p l (i + 1)) := fun j hj => by rw [hj]
     generalize hL : zZ p l i = L at hpl2 hok2 hnx
     generalize hM : zZ p l (i + 1) = M at hnx hnl2 hbad2 hall2
     have hiL : i < L.length := by omega
     have hiM : i < M.length := by omega
     have hge : L.getD i vr0 = L[i] := by simp [List.getD, hiL]
     have hgm : M.getD i vr0 = M[i] := by simp [List.getD, hiM]
     have htk := yq (varC false) L
     rw [hpl2] at htk
     rw [hgm] at hbad2 hall2
     have hnx0 := hnx
     unfold Ys tyOf at hnx
     rw [hge] at hnx
     have hq := Xr (varC false) L hiL
     have hqd := zh (varC false) L hiL
     have hqm := Xr (varC false) M hiM
     have hqdm := zh (varC false) M hiM
     simp only [varC, cI, cS] at hq hqd hqm hqdm
     have fin : ∀ (b : Bool), (M[i].ty == 0) = b -> True := fun _ _ => trivial
     refine ze zf _ ?_
     by_cases hneg : 0 <= L[i].node
     · have c1 : (0 <= L[i].node) = True := eq_true hneg
       obtain ⟨g1, g2⟩ := (hok2 i hiL).resolve_left (by omega)
       rw [if_pos hneg, xz g1] at hnx
       rw [xz g1] at g2
       have c2 : (L[i].node < (p.nodes.length : Int)) = True := eq_true (by omega)
       have hy : (rows (zg true) p.nodes).getD L[i].node.toNat [] = zg true p.nodes[L[i].node.toNat] := zh _ _ g1
       have hkd := hD.kid g1
       generalize p.nodes[L[i].node.toNat] = x at hy g2 hnx hkd
       have hk0 : x.kids.getD 0 0 = x.kids[0] := by simp [List.getD, g2]
       obtain ⟨q0, q1, q2⟩ := hkd x.kids[0] (List.getElem_mem g2)
       obtain ⟨m, hm⟩ : ∃ m : Nat, x.kids[0] = m := ⟨x.kids[0].toNat, by omega⟩
       have hty := YH p hD L (by omega) hf hn hk m (by omega)
       rw [hk0, hm] at hnx
       have hg0 : (row1 cI x.kids).getD (Int.toNat 0) [] = [cI x.kids[0]] := zq cI x.kids g2
       rw [hm] at hg0
       have hc0 : ((0 : Int) < (x.kids.length : Int)) = True := eq_true (by omega)
       have hvst := zln L i ⟨L[i].name, yl p L m, L[i].node⟩
       rw [<- hnx] at hvst
       simp only [zb] at hty
       simp only [cI, cS] at hvst hg0
       simp +decide only [e, h', c1, hq, hqd, Int.natCast_nonneg, vB, vI, zb, za, hpin, go_sem, reduceAdd, reduceMul]
       refine Tri.sched zf [(0, true), (1, true), (3, true), (4, true), (6, true), (7, true), (8, true), (9, true), (2, true), (5, true), (10, false), (11, false), (12, false), (13, false), (14, false), (15, false), (16, false), (17, false), (18, false), (19, false)] zV (by kernel_rfl) (fun C2 hC2 => ?_)
       have hp2 := zY hC2 hpin
       simp +decide only [e, h', c1, c2, hq, hqd, hy, zg, hg0, hc0, g2, htk, Int.natCast_nonneg, zb, za, hp2, go_sem, reduceAdd, reduceMul]
       refine zd hty hp2 ?_
       cases hz : M[i].ty == 0 with
       | true =>
         rw [hbad2 hz]
         simp +decide only [e, hpl2, htk, h', hq, hqd, hvst, hqm, hqdm, hz, Int.natCast_nonneg, zb, za, hp2, hpin, go_sem, reduceAdd, reduceMul]
       | false =>
       simp +decide only [e, hpl2, htk, h', hq, hqd, hvst, hqm, hqdm, hz, Int.natCast_nonneg, zb, za, hp2, hpin, go_sem, reduceAdd, reduceMul]
       refine ⟨i + 1, ⟨h', hall2 hz⟩, by omega, Ent.weak ?_ ?_ ?_ ?_⟩
       all_goals simp +decide [subT, subB, zk, zj, zl, St.get, look, vI, vB, vS, cI, cS, cB, zg, za, roI, hM, w64s (n := l.length) h' (by omega)]
     · have c1 : (0 <= L[i].node) = False := eq_false hneg
       rw [if_neg hneg] at hnx
       subst hnx
       cases hz : M[i].ty == 0 with
       | true =>
         rw [hbad2 hz]
         simp +decide only [e, h', c1, hq, hqd, hz, Int.natCast_nonneg, vB, vI, zb, za, hpin, go_sem, reduceAdd, reduceMul]
       | false =>
       simp +decide only [e, h', c1, hq, hqd, hz, Int.natCast_nonneg, vB, vI, zb, za, hpin, go_sem, reduceAdd, reduceMul]
       refine ⟨i + 1, ⟨h', hall2 hz⟩, by omega, Ent.weak ?_ ?_ ?_ ?_⟩
       all_goals simp +decide [subT, subB, zk, zj, zl, St.get, look, vI, vB, vS, cI, cS, cB, zg, za, roI, hM, w64s (n := l.length) h' (by omega)]
   · have hil : i = l.length := by omega
     subst hil
     have e : ((l.length : Int) < (l.length : Int)) = False := by simp
     have hRt := hgood (fun j hj => hall j hj hj)
     have htk := yq (varC false) (zZ p l l.length)
     rw [hll] at htk
     refine ze zf _ ?_
     rw [hRt]
     simp +decide only [e, vB, vI, zb, za, hpin, go_sem, reduceAdd, reduceMul]
     refine ze zf _ ?_
     simp +decide only [htk, hll, zb, za, hpin, go_sem, reduceAdd, reduceMul]
def zeI (T : Int -> Int) (x : NodeD) : Int := if 0 < x.kids.length then T (x.kids.getD 0 0) else 0
def zeT (T : Int -> Int) (p : ProgramD) (l : List VarD) (x : NodeD) : Bool :=
 if x.kind == 13 then !(zeI T x == 0)
 else if x.kind == 14 then (zeI T x == XY l x.name && (zeI T x == 1 || zeI T x == 2))
 else if x.kind == 15 then (zeI T x == 1 && (XY l x.name == 2 || XY l x.name == 4))
 else if x.kind == 16 || (x.kind == 17 || x.kind == 18) then zeI T x == 1
 else if x.kind == 19 then YE T p (nAt p.nodes (x.kids.getD 0 0))
 else true
def stB (p : ProgramD) (l : List VarD) (m : Nat) : Bool := zeT (yl p l) p l (nAt p.nodes m)
open Classical in
noncomputable def Yb (p : ProgramD) (l : List VarD) (n : Nat) : Bool := decide (∀ m, Reach p.nodes n m -> stB p l m = true)
theorem zbw {p : ProgramD} (l : List VarD) {n : Nat} (hn : n < p.nodes.length) : Yb p l n = (stB p l n && p.nodes[n].kids.all (fun kid => Yb p l kid.toNat)) := by
 rw [Bool.eq_iff_iff, Bool.and_eq_true, List.all_eq_true]
 unfold Yb
 simp only [decide_eq_true_eq]
 constructor
 · intro h
   exact ⟨h n (.refl n), fun kid hk m hm => h m ((Reach.step (.refl n) hn hk).trans hm)⟩
 · rintro ⟨h1, h2⟩ m hm
   rcases hm.head with rfl | ⟨_, kid, hk, hr⟩
   · exact h1
   · exact h2 kid hk m hr
theorem zoC {p : ProgramD} (l : List VarD) {n : Nat} (hv : xw (nAt p.nodes n).kind = true) : stB p l n = true := by
 obtain ⟨v20, v16, v17, v19, v14, v15, v13⟩ := zlo hv
 have v18 : ((nAt p.nodes n).kind == 18) = false := by
   have := zx (show inI (nAt p.nodes n).kind 1 12 = true from hv)
   apply Bool.eq_false_iff.2; intro hh; have := eq_of_beq hh; omega
 unfold stB zeT
 rw [v13, v14, v15, v16, v17, v18, v19]; rfl
theorem zmD {p : ProgramD} (hD : Deep p.nodes) (l : List VarD) (n : Nat) : n < p.nodes.length -> xw (nAt p.nodes n).kind = true -> Yb p l n = true := by
 induction n using Nat.strongRecOn with
 | ind n ih =>
 intro hn hv
 rw [zbw l hn, zoC l hv, Bool.true_and, List.all_eq_true]
 intro kid hk
 obtain ⟨i, hi, rfl⟩ := List.getElem_of_mem hk
 have hft := Zq (hD.deep n hn) hn hi
 rw [zF hn] at hv
 obtain ⟨v20, v16, v17, v19, _⟩ := zlo hv
 unfold yC at hft
 rw [v20, v16, v17, v19] at hft
 obtain ⟨q0, q1, q2⟩ := hD.kid hn _ hk
 have e : p.nodes[n].kids[i] = (p.nodes[n].kids[i].toNat : Int) := by omega
 refine ih _ q2 (by omega) ?_
 rw [<- e]; exact hft
theorem zgM (p : ProgramD) (hD : Deep p.nodes) (l : List VarD) (hl : l.length <= 4194304) (hf : p.fns.length <= 1048576) (hn : p.nodes.length <= 1048576) (hk : ∀ x ∈ p.nodes, x.kids.length <= 300) (n : Nat) (hnl : n < p.nodes.length) :
   zu Tryz.prog 118 [.ro (zb p), .ro (.imm 96 (rows (varC true) l)), .ro (.sc (.int .i64 n))] (fun rs st => rs = [(false, [cB (stB p l n)])]) := by
 have hkid := hD.kid hnl
 have hsh := zx (xP (hD.deep n hnl) hnl)
 have hx : (rows (zg true) p.nodes).getD n [] = zg true p.nodes[n] := zh _ _ hnl
 have hc1 : ((n : Int) < (p.nodes.length : Int)) = True := eq_true (by omega)
 unfold stB
 rw [zF hnl]
 generalize p.nodes[n] = x at hkid hsh hx
 have hvt := zbZ l x.name hl
 obtain ⟨R, heq⟩ : ∃ R, R = zeT (yl p l) p l x := ⟨_, rfl⟩
 rw [<- heq]
 unfold zeT at heq
 generalize XY l x.name = tv at hvt heq
 generalize hht : zeI (yl p l) x = t at heq
 refine zm (fn := Tryz.f118) (c := Tryz.f118.body.getD .skip) (res := [.tm 6]) (n := 76) zf (by kernel_rfl) (by rfl) (by kernel_rfl) (by rfl) (by rfl) (by simp [zp]) (fun uf ub C hpin hpin2 hfull => ?_)
 simp only [Tryz.f118, Option.getD_some]
 refine Tri.step zf ?_
 simp +decide only [zb, za, hpin, go_sem, reduceAdd, reduceMul]
 refine Tri.ent ?_ (Ent.frb hfull 3)
 refine Tri.step zf ?_
 simp +decide only [hc1, hx, zg, Int.natCast_nonneg, zb, za, hpin, go_sem, reduceAdd, reduceMul]
 refine Tri.ent ?_ (Ent.frb hfull 7)
 refine Tri.step zf ?_
 simp +decide only [zb, za, hpin, go_sem, reduceAdd, reduceMul]
 refine Tri.stop zf ⟨76, [(1, .imm 96 (rows (varC true) l)), (3, .ip (za true p) 0), (7, .ip (zg true x) 0), (8, vI t)], []⟩ ?_ ?_
 · unfold zeI at hht
   by_cases hpos : 0 < x.kids.length
   · rw [if_pos hpos] at hht
     have hg0 : (row1 cI x.kids).getD (Int.toNat 0) [] = [cI x.kids[0]] := zq cI x.kids hpos
     have hc0 : ((0 : Int) < (x.kids.length : Int)) = True := eq_true (by omega)
     have hk0 : x.kids.getD 0 0 = x.kids[0] := by simp [List.getD, hpos]
     obtain ⟨q0, q1, q2⟩ := hkid x.kids[0] (List.getElem_mem hpos)
     obtain ⟨m, hm⟩ : ∃ m : Nat, x.kids[0] = m := ⟨x.kids[0].toNat, by omega⟩
     have hty := YI p hD l hl hf hn hk m (by omega)
     rw [hk0, hm] at hht
     rw [hm] at hg0
     simp only [zb] at hty
     simp only [cI] at hg0
     simp +decide only [hc0, gt_iff_lt, zg, zb, za, hpin, go_sem, reduceAdd, reduceMul]
     refine Tri.sched zf [(1, true), (2, true), (0, true), (3, false), (4, false), (5, false), (6, false), (7, false)] zV (by kernel_rfl) (fun C2 hC2 => ?_)
     have hp2 := zY hC2 hpin
     simp +decide only [hg0, hc0, hpos, zb, za, hp2, go_sem, reduceAdd, reduceMul]
     refine zd hty hp2 ?_
     simp +decide only [hht, zb, za, hp2, hpin, go_sem, reduceAdd, reduceMul]
     refine Ent.weak ?_ ?_ ?_ ?_ <;> simp +decide [subT, subB, zk, zj, zl, St.get, look, vI, vB, vS, cI, cS, cB, zg, za, roI]
   · rw [if_neg hpos] at hht
     have hc0 : ((0 : Int) < (x.kids.length : Int)) = False := eq_false (by omega)
     simp +decide only [hc0, gt_iff_lt, zg, zb, za, hpin, go_sem, reduceAdd, reduceMul]
     refine Ent.weak ?_ ?_ ?_ ?_ <;> simp +decide [subT, subB, zk, zj, zl, St.get, look, vI, vB, vS, cI, cS, cB, zg, za, roI, <- hht]
 refine Tri.step zf ?_
 simp +decide only [zg, za, vB, vI, zb, za, hpin, go_sem, reduceAdd, reduceMul]
 refine zd hvt hpin ?_
 simp +decide only [zb, za, hpin, go_sem, reduceAdd, reduceMul]
 refine Tri.step zf ?_
 cases h13 : x.kind == 13 with
 | true =>
   have ek := eq_of_beq h13
   rw [ek] at heq
   simp +decide only [Bool.or_true, Bool.true_or, Bool.or_false, Bool.false_or, if_true, if_false, Int.reduceBEq, Bool.false_eq_true] at heq
   simp +decide only [h13, heq, Bool.or_true, Bool.true_or, Bool.or_false, Bool.false_or, bne, zg, zb, za, hpin, go_sem, reduceAdd, reduceMul]
 | false =>
 cases h14 : x.kind == 14 with
 | true =>
   have ek := eq_of_beq h14
   rw [ek] at heq
   simp +decide only [Bool.or_true, Bool.true_or, Bool.or_false, Bool.false_or, if_true, if_false, Int.reduceBEq, Bool.false_eq_true] at heq
   cases e1 : t == tv with
   | false =>
     simp only [e1, Bool.true_and, Bool.false_and, Bool.true_or, Bool.false_or, Bool.or_false] at heq
     simp +decide only [h13, h14, e1, heq, Bool.or_true, Bool.true_or, Bool.or_false, Bool.false_or, bne, zg, zb, za, hpin, go_sem, reduceAdd, reduceMul]
   | true =>
   cases e2 : t == 1 with
   | true =>
     simp only [e1, e2, Bool.true_and, Bool.false_and, Bool.true_or, Bool.false_or, Bool.or_false] at heq
     simp +decide only [h13, h14, e1, e2, heq, Bool.or_true, Bool.true_or, Bool.or_false, Bool.false_or, bne, zg, zb, za, hpin, go_sem, reduceAdd, reduceMul]
   | false =>
   cases e3 : t == 2 with
   | true =>
     simp only [e1, e2, e3, Bool.true_and, Bool.false_and, Bool.true_or, Bool.false_or, Bool.or_false] at heq
     simp +decide only [h13, h14, e1, e2, e3, heq, Bool.or_true, Bool.true_or, Bool.or_false, Bool.false_or, bne, zg, zb, za, hpin, go_sem, reduceAdd, reduceMul]
   | false =>
     simp only [e1, e2, e3, Bool.true_and, Bool.false_and, Bool.true_or, Bool.false_or, Bool.or_false] at heq
     simp +decide only [h13, h14, e1, e2, e3, heq, Bool.or_true, Bool.true_or, Bool.or_false, Bool.false_or, bne, zg, zb, za, hpin, go_sem, reduceAdd, reduceMul]
 | false =>
 cases h15 : x.kind == 15 with
 | true =>
   have ek := eq_of_beq h15
   rw [ek] at heq
   simp +decide only [Bool.or_true, Bool.true_or, Bool.or_false, Bool.false_or, if_true, if_false, Int.reduceBEq, Bool.false_eq_true] at heq
   cases e1 : t == 1 with
   | false =>
     simp only [e1, Bool.true_and, Bool.false_and, Bool.true_or, Bool.false_or, Bool.or_false] at heq
     simp +decide only [h13, h14, h15, e1, heq, Bool.or_true, Bool.true_or, Bool.or_false, Bool.false_or, bne, zg, zb, za, hpin, go_sem, reduceAdd, reduceMul]
   | true =>
   cases e2 : tv == 2 with
   | true =>
     simp only [e1, e2, Bool.true_and, Bool.false_and, Bool.true_or, Bool.false_or, Bool.or_false] at heq
     simp +decide only [h13, h14, h15, e1, e2, heq, Bool.or_true, Bool.true_or, Bool.or_false, Bool.false_or, bne, zg, zb, za, hpin, go_sem, reduceAdd, reduceMul]
   | false =>
   cases e3 : tv == 4 with
   | true =>
     simp only [e1, e2, e3, Bool.true_and, Bool.false_and, Bool.true_or, Bool.false_or, Bool.or_false] at heq
     simp +decide only [h13, h14, h15, e1, e2, e3, heq, Bool.or_true, Bool.true_or, Bool.or_false, Bool.false_or, bne, zg, zb, za, hpin, go_sem, reduceAdd, reduceMul]
   | false =>
     simp only [e1, e2, e3, Bool.true_and, Bool.false_and, Bool.true_or, Bool.false_or, Bool.or_false] at heq
     simp +decide only [h13, h14, h15, e1, e2, e3, heq, Bool.or_true, Bool.true_or, Bool.or_false, Bool.false_or, bne, zg, zb, za, hpin, go_sem, reduceAdd, reduceMul]
 | false =>
 cases h16 : x.kind == 16 with
 | true =>
   have ek := eq_of_beq h16
   rw [ek] at heq
   simp +decide only [Bool.or_true, Bool.true_or, Bool.or_false, Bool.false_or, if_true, if_false, Int.reduceBEq, Bool.false_eq_true] at heq
   simp +decide only [h13, h14, h15, h16, heq, Bool.or_true, Bool.true_or, Bool.or_false, Bool.false_or, bne, zg, zb, za, hpin, go_sem, reduceAdd, reduceMul]
 | false =>
 cases h17 : x.kind == 17 with
 | true =>
   have ek := eq_of_beq h17
   rw [ek] at heq
   simp +decide only [Bool.or_true, Bool.true_or, Bool.or_false, Bool.false_or, if_true, if_false, Int.reduceBEq, Bool.false_eq_true] at heq
   simp +decide only [h13, h14, h15, h16, h17, heq, Bool.or_true, Bool.true_or, Bool.or_false, Bool.false_or, bne, zg, zb, za, hpin, go_sem, reduceAdd, reduceMul]
 | false =>
 cases h18 : x.kind == 18 with
 | true =>
   have ek := eq_of_beq h18
   rw [ek] at heq
   simp +decide only [Bool.or_true, Bool.true_or, Bool.or_false, Bool.false_or, if_true, if_false, Int.reduceBEq, Bool.false_eq_true] at heq
   simp +decide only [h13, h14, h15, h16, h17, h18, heq, Bool.or_true, Bool.true_or, Bool.or_false, Bool.false_or, bne, zg, zb, za, hpin, go_sem, reduceAdd, reduceMul]
 | false =>
 cases h19 : x.kind == 19 with
 | true =>
   have ek := eq_of_beq h19
   rw [ek] at heq
   simp +decide only [Bool.or_true, Bool.true_or, Bool.or_false, Bool.false_or, if_true, if_false, Int.reduceBEq, Bool.false_eq_true] at heq
   have hpos : 0 < x.kids.length := by rw [ek] at hsh; have := hsh.1; simp [zG] at this; omega
   have hg0 : (row1 cI x.kids).getD (Int.toNat 0) [] = [cI x.kids[0]] := zq cI x.kids hpos
   have hc0 : ((0 : Int) < (x.kids.length : Int)) = True := eq_true (by omega)
   have hk0 : x.kids.getD 0 0 = x.kids[0] := by simp [List.getD, hpos]
   obtain ⟨q0, q1, q2⟩ := hkid x.kids[0] (List.getElem_mem hpos)
   obtain ⟨m, hm⟩ : ∃ m : Nat, x.kids[0] = m := ⟨x.kids[0].toNat, by omega⟩
   have hml : m < p.nodes.length := by omega
   have hcr := zbA p l hl hf hn hk m hml (fun kid hkk => by
     obtain ⟨r0, r1, r2⟩ := hD.kid hml kid hkk
     have e : kid = (kid.toNat : Int) := by omega
     have := YI p hD l hl hf hn hk kid.toNat (by omega)
     rw [<- e] at this
     exact this)
   rw [hk0, hm, zF hml] at heq
   rw [<- heq] at hcr
   rw [hm] at hg0
   simp only [zb] at hcr
   simp only [cI] at hg0
   simp +decide only [h13, h14, h15, h16, h17, h18, h19, Bool.or_true, Bool.true_or, Bool.or_false, Bool.false_or, bne, zg, zb, za, hpin, go_sem, reduceAdd, reduceMul]
   refine Tri.sched zf [(1, true), (2, true), (0, true), (3, false), (4, false), (5, false), (6, false), (7, false)] zV (by kernel_rfl) (fun C2 hC2 => ?_)
   have hp2 := zY hC2 hpin
   simp +decide only [hg0, hc0, hpos, zb, za, hp2, go_sem, reduceAdd, reduceMul]
   refine zd hcr hp2 ?_
   simp +decide only [zb, za, hp2, hpin, go_sem, reduceAdd, reduceMul]
 | false =>
 simp +decide only [h13, h14, h15, h16, h17, h18, h19, Bool.or_false, if_false, Bool.false_eq_true] at heq
 simp +decide only [h13, h14, h15, h16, h17, h18, h19, Bool.or_true, Bool.true_or, Bool.or_false, Bool.false_or, bne, zg, zb, za, hpin, go_sem, reduceAdd, reduceMul]
 refine ze zf _ ?_
 simp +decide only [heq, zb, za, hpin, go_sem, reduceAdd, reduceMul]
noncomputable def yZ (p : ProgramD) (i : Nat) : Bool := YZ p i && (Yb p (zL p i) (fAt p.fns i).body.toNat && (decide ((fAt p.fns i).ret < 0) || yl p (zL p i) (fAt p.fns i).ret == (fAt p.fns i).res))
noncomputable def zW (p : ProgramD) : Bool := yi p && zJ (yZ p) p.fns.length
theorem zkl {p : ProgramD} (l : List VarD) {b : Nat} (hd : dAt p.nodes b ≠ 0) : (yU p.nodes b).all (fun x => stB p l x.toNat) = Yb p l b := by
 rw [Bool.eq_iff_iff, List.all_eq_true]
 unfold Yb
 simp only [decide_eq_true_eq]
 constructor
 · intro h m hm
   have := h (m : Int) (by unfold yU; exact List.mem_map.2 ⟨m, (yO hd).2 hm, rfl⟩)
   exact this
 · intro h x hx
   unfold yU at hx
   obtain ⟨m, hm, rfl⟩ := List.mem_map.1 hx
   exact h m ((yO hd).1 hm)
theorem Zz (p : ProgramD) (fn : Int) (hpl : ∀ f ∈ p.fns, f.params.length <= 1048576) (hn : p.nodes.length <= 1048576) : (zL p fn).length <= 2097152 := by
 unfold zL; rw [zD]; exact xO p fn hpl hn
theorem Yr (p : ProgramD) (hf : p.fns.length <= 1048576) (hn : p.nodes.length <= 1048576) (hk : ∀ x ∈ p.nodes, x.kids.length <= 1048576) (hpl : ∀ f ∈ p.fns, f.params.length <= 1048576) : zu Tryz.prog 39 [.ro (zb p)] (fun rs st => rs = [(false, [cB (zW p)])]) := by
 have hps := Zj p hf hn hk hpl
 simp only [zb] at hps
 unfold zW
 refine zm (fn := Tryz.f39) (c := Tryz.f39.body.getD .skip) (res := [.tm 2]) (n := 58) zf (by kernel_rfl) (by rfl) (by kernel_rfl) (by rfl) (by rfl) (by simp [zp]) (fun uf ub C hpin hpin2 hfull => ?_)
 simp only [Tryz.f39, Option.getD_some]
 refine Tri.step zf ?_
 simp +decide only [zb, za, hpin, go_sem, reduceAdd, reduceMul]
 refine Tri.ent ?_ (Ent.frb hfull 1)
 refine Tri.step zf ?_
 simp +decide only [zb, za, hpin, go_sem, reduceAdd, reduceMul]
 refine zd hps hpin ?_
 cases h0 : yi p with
 | false => simp +decide only [zb, za, hpin, go_sem, reduceAdd, reduceMul]
 | true =>
 have hG := yh (Bool.and_eq_true_iff.1 h0).1
 have hk3 : ∀ x ∈ p.nodes, x.kids.length <= 300 := fun x hx => by have := hG.deep.few x hx; omega
 simp +decide only [zb, za, hpin, go_sem, reduceAdd, reduceMul]
 refine Tri.step zf ?_
 simp +decide only [zb, za, hpin, go_sem, reduceAdd, reduceMul]
 refine Tri.loop (ι := Nat) (fun i => i <= p.fns.length /\ zJ (yZ p) i = true) (fun i => ⟨58, [(1, .ip (za true p) 0), (2, vB false), (13, .imm 104 (rows (fnC true) p.fns)), (14, vI p.fns.length), (15, vI i)], []⟩) (fun i => p.fns.length - i) 0 ⟨by simp, rfl⟩ ?_ ?_
 · refine Ent.weak ?_ ?_ ?_ ?_ <;> simp +decide [subT, subB, zk, zj, zl, St.get, look, vI, vB, vS, cI, cS, cB, zg, za, roI]
 · rintro i ⟨hi, hq⟩
   refine ze zf _ ?_
   by_cases h' : i < p.fns.length
   · have e : ((i : Int) < (p.fns.length : Int)) = True := by simp [h']
     have hx : (rows (fnC true) p.fns).getD i [] = fnC true p.fns[i] := zh _ _ h'
     have hok := hG.fn i h'
     have hfe : yZ p i = (YZ p i && (Yb p (zL p i) p.fns[i].body.toNat && (decide (p.fns[i].ret < 0) || yl p (zL p i) p.fns[i].ret == p.fns[i].res))) := by unfold yZ; rw [yS h']
     obtain ⟨⟨b0, b1⟩, hret⟩ := xT hok
     generalize p.fns[i] = g at hx hok hfe b0 b1 hret
     have hts := zcc p h0 i h' hf hn hk hpl
     have hll := Zz p i hpl hn
     simp only [zb] at hts
     simp +decide only [e, h', hx, fnC, Int.natCast_nonneg, za, vB, vI, zb, za, hpin, go_sem, reduceAdd, reduceMul]
     cases hB : YZ p i with
     | false =>
       have hff : zJ (yZ p) p.fns.length = false := zw h' (by rw [hfe, hB]; rfl)
       rw [hB] at hts
       simp only [if_false, Bool.false_eq_true] at hts
       refine zd hts hpin ?_
       simp +decide only [hff, zb, za, hpin, go_sem, reduceAdd, reduceMul]
     | true =>
     rw [hB] at hts
     rw [hB, Bool.true_and] at hfe
     simp only [if_true] at hts
     refine zd hts hpin ?_
     generalize zL p i = l at hll hfe |-
     obtain ⟨b, hbb⟩ : ∃ b : Nat, g.body = b := ⟨g.body.toNat, by omega⟩
     have hbl : b < p.nodes.length := by omega
     have hun := zam p.nodes b (hG.deep.deep b hbl) hn hk
     have hud := zkl l (hG.deep.deep b hbl)
     have hum : ∀ j (hj : j < (yU p.nodes b).length), 0 <= (yU p.nodes b)[j] /\ (yU p.nodes b)[j].toNat < p.nodes.length := fun j hj => by
       have hm := List.getElem_mem hj
       unfold yU at hm
       obtain ⟨m, hm, he⟩ := List.mem_map.1 hm
       have hm2 := ((yO (hG.deep.deep b hbl)).1 hm).le (hG.deep.deep b hbl)
       unfold yU at hj |-
       rw [<- he]
       constructor
       · omega
       · simp; omega
     rw [hbb] at hfe
     rw [show (b : Int).toNat = b by omega] at hfe
     simp +decide only [hbb, zb, za, hpin, go_sem, reduceAdd, reduceMul]
     refine zd hun hpin ?_
     simp +decide only [zb, za, hpin, go_sem, reduceAdd, reduceMul]
     have hul : (yU p.nodes b).length <= b + 1 := by have := zaL p.nodes b; simpa [yU] using this
     generalize yU p.nodes b = U at hud hum hul |-
     refine Tri.ent ?_ (Ent.frz hfull 5)
     refine Tri.ent ?_ (Ent.frb hfull 4)
     simp +decide only [zb, za, hpin, go_sem, reduceAdd, reduceMul]
     refine Tri.loop (ι := Nat) (fun j => j <= U.length /\ (U.take j).all (fun x => stB p l x.toNat) = true) (fun j => ⟨58, [(1, .ip (za true p) 0), (2, vB false), (3, vI i), (4, .ip [cS g.name, .row true 107 (rows (zr true) g.params), cI g.res, cI b, cI g.ret] 0), (5, .imm 96 (rows (varC true) l)), (13, .imm 104 (rows (fnC true) p.fns)), (14, vI p.fns.length), (15, vI i), (32, .ref 3032 [] U.length), (33, vI U.length), (34, vI j)], [(3032, .row 3 (row1 cI U))]⟩) (fun j => U.length - j) 0 ⟨by simp, by simp⟩ ?_ ?_
     · refine Ent.weak ?_ ?_ ?_ ?_ <;> simp +decide [subT, subB, zk, zj, zl, St.get, look, vI, vB, vS, cI, cS, cB, zg, za, roI]
     · rintro j ⟨hj, hq2⟩
       refine ze zf _ ?_
       by_cases hj' : j < U.length
       · have e2 : ((j : Int) < (U.length : Int)) = True := by simp [hj']
         obtain ⟨g0, g1⟩ := hum j hj'
         obtain ⟨m, hm⟩ : ∃ m : Nat, U[j] = m := ⟨U[j].toNat, by omega⟩
         have hml : m < p.nodes.length := by omega
         have hsr := zgM p hG.deep l (by omega) hf hn hk3 m hml
         have hUj : stB p l U[j].toNat = stB p l m := by rw [hm]; rfl
         simp only [zb] at hsr
         simp +decide only [e2, hj', yd _ _ hj', hm, Int.natCast_nonneg, za, vB, vI, zb, za, hpin, go_sem, reduceAdd, reduceMul]
         refine zd hsr hpin ?_
         cases hc : stB p l m with
         | false =>
           have hff2 : U.all (fun x => stB p l x.toNat) = false := by rw [List.all_eq_false]; exact ⟨U[j], List.getElem_mem hj', by rw [hUj, hc]; decide⟩
           rw [hud] at hff2
           rw [hff2, Bool.false_and] at hfe
           have hff : zJ (yZ p) p.fns.length = false := zw h' hfe
           simp +decide only [hff, zb, za, hpin, go_sem, reduceAdd, reduceMul]
         | true =>
           simp +decide only [zb, za, hpin, go_sem, reduceAdd, reduceMul]
           refine ⟨j + 1, ⟨hj', by rw [zbC hj', hq2, hUj, hc]; rfl⟩, by omega, Ent.weak ?_ ?_ ?_ ?_⟩
           all_goals simp +decide [subT, subB, zk, zj, zl, St.get, look, vI, vB, vS, cI, cS, cB, zg, za, roI, w64s (n := U.length) hj' (by omega)]
       · have hjl : j = U.length := by omega
         subst hjl
         have e2 : ((U.length : Int) < (U.length : Int)) = False := by simp
         rw [List.take_length, hud] at hq2
         rw [hq2, Bool.true_and] at hfe
         simp +decide only [e2, za, vB, vI, zb, za, hpin, go_sem, reduceAdd, reduceMul]
         refine Tri.sched zf [(0, false), (1, false), (2, false), (3, false), (5, true), (6, true), (9, true), (4, true), (7, true), (10, true), (8, false), (11, false), (12, false)] zV (by kernel_rfl) (fun C2 hC2 => ?_)
         have hp2 := zY hC2 hpin
         rcases hret with hneg | ⟨x0, x1⟩
         · have y0 : (0 <= g.ret) = False := eq_false (by omega)
           have y1 : decide (g.ret < 0) = true := decide_eq_true hneg
           rw [y1, Bool.true_or] at hfe
           simp +decide only [y0, ge_iff_le, zb, za, hp2, hpin, go_sem, reduceAdd, reduceMul]
           refine ⟨i + 1, ⟨h', by rw [zN, hq, hfe]; rfl⟩, by omega, Ent.weak ?_ ?_ ?_ ?_⟩
           all_goals simp +decide [subT, subB, zk, zj, zl, St.get, look, vI, vB, vS, cI, cS, cB, zg, za, roI, w64s (n := p.fns.length) h' (by omega)]
         · have y0 : (0 <= g.ret) = True := eq_true x0
           have y1 : decide (g.ret < 0) = false := decide_eq_false (by omega)
           rw [y1, Bool.false_or] at hfe
           obtain ⟨r, hrr⟩ : ∃ r : Nat, g.ret = r := ⟨g.ret.toNat, by omega⟩
           have hrl : r < p.nodes.length := by omega
           have hty := YI p hG.deep l (by omega) hf hn hk3 r hrl
           rw [hrr] at hfe
           simp only [zb] at hty
           simp +decide only [y0, hrr, ge_iff_le, Int.natCast_nonneg, zb, za, hp2, go_sem, reduceAdd, reduceMul]
           refine zd hty hp2 ?_
           cases g2 : yl p l r == g.res with
           | false =>
             rw [g2] at hfe
             have hff : zJ (yZ p) p.fns.length = false := zw h' hfe
             simp +decide only [g2, hff, bne, zb, za, hp2, hpin, go_sem, reduceAdd, reduceMul]
           | true =>
             rw [g2] at hfe
             simp +decide only [g2, bne, zb, za, hp2, hpin, go_sem, reduceAdd, reduceMul]
             refine ⟨i + 1, ⟨h', by rw [zN, hq, hfe]; rfl⟩, by omega, Ent.weak ?_ ?_ ?_ ?_⟩
             all_goals simp +decide [subT, subB, zk, zj, zl, St.get, look, vI, vB, vS, cI, cS, cB, zg, za, roI, w64s (n := p.fns.length) h' (by omega)]
   · have hil : i = p.fns.length := by omega
     subst hil
     have e : ((p.fns.length : Int) < (p.fns.length : Int)) = False := by simp
     simp +decide only [e, vB, vI, zb, za, hpin, go_sem, reduceAdd, reduceMul]
     refine ze zf _ ?_
     simp +decide only [hq, zb, za, hpin, go_sem, reduceAdd, reduceMul]
theorem zpH {f : Int -> Bool} : ∀ l : List Int, l.length = 1 -> l.all f = f (l.getD 0 0)
 | [a], _ => by simp
theorem zpG {f : Int -> Bool} : ∀ l : List Int, l.length = 2 -> l.all f = (f (l.getD 0 0) && f (l.getD 1 0))
 | [a, b], _ => by simp
theorem zmO {f : Int -> Bool} : ∀ l : List Int, l.length = 3 -> l.all f = (f (l.getD 0 0) && (f (l.getD 1 0) && f (l.getD 2 0)))
 | [a, b, c], _ => by simp
def zjl (p : ProgramD) (l : List VarD) (n : Nat) : Prop := YT (nAt p.nodes n).kind = true ->
   zu Tryz.prog 168 [.ro (zb p), .ro (.imm 96 (rows (varC true) l)), .ro (.sc (.int .i64 n))] (fun rs st => rs = [(false, [cB (Yb p l n)])])
def zgu (p : ProgramD) (l : List VarD) (n : Nat) : Prop := (nAt p.nodes n).kind == 20 ->
   zu Tryz.prog 107 [.ro (zb p), .ro (.imm 96 (rows (varC true) l)), .ro (.sc (.int .i64 n))] (fun rs st => rs = [(false, [cB (Yb p l n)])])
theorem zlv (p : ProgramD) (hD : Deep p.nodes) (l : List VarD) (hk : ∀ x ∈ p.nodes, x.kids.length <= 300) (n : Nat) (hnl : n < p.nodes.length) (ih : ∀ m, m < n -> zjl p l m) : zgu p l n := by
 intro h20
 have heq := zbw l hnl
 have hst : stB p l n = true := by
   unfold stB zeT
   have ek := eq_of_beq h20
   rw [ek]; rfl
 rw [hst, Bool.true_and] at heq
 rw [zF hnl] at h20
 have hkid := hD.kid hnl
 have hkx := hk p.nodes[n] (List.getElem_mem hnl)
 have hx : (rows (zg true) p.nodes).getD n [] = zg true p.nodes[n] := zh _ _ hnl
 have hrec : ∀ i (hi : i < p.nodes[n].kids.length), zu Tryz.prog 168 [.ro (zb p), .ro (.imm 96 (rows (varC true) l)), .ro (.sc (.int .i64 p.nodes[n].kids[i]))] (fun rs st => rs = [(false, [cB (Yb p l p.nodes[n].kids[i].toNat)])]) := fun i hi => by
   have hft := Zq (hD.deep n hnl) hnl hi
   unfold yC at hft
   rw [h20, if_pos rfl] at hft
   obtain ⟨q0, q1, q2⟩ := hkid p.nodes[n].kids[i] (List.getElem_mem hi)
   have e : p.nodes[n].kids[i] = (p.nodes[n].kids[i].toNat : Int) := by omega
   have := ih p.nodes[n].kids[i].toNat q2 (by rw [<- e]; exact hft)
   rw [<- e] at this
   exact this
 generalize Yb p l n = R at heq |-
 have hc1 : ((n : Int) < (p.nodes.length : Int)) = True := eq_true (by omega)
 generalize p.nodes[n] = x at hkid hkx heq hx hrec
 simp only [zb] at hrec
 refine zm (fn := Tryz.f107) (c := Tryz.f107.body.getD .skip) (res := [.tm 6]) (n := 32) zf (by kernel_rfl) (by rfl) (by kernel_rfl) (by rfl) (by rfl) (by simp [zp]) (fun uf ub C hpin hpin2 hfull => ?_)
 simp only [Tryz.f107, Option.getD_some]
 refine Tri.step zf ?_
 simp +decide only [zb, za, hpin, go_sem, reduceAdd, reduceMul]
 refine Tri.ent ?_ (Ent.frb hfull 3)
 refine Tri.step zf ?_
 simp +decide only [zb, za, hpin, go_sem, reduceAdd, reduceMul]
 refine Tri.loop (ι := Nat) (fun i => i <= x.kids.length /\ (x.kids.take i).all (fun kid => Yb p l kid.toNat) = true) (fun i => ⟨32, [(1, .imm 96 (rows (varC true) l)), (2, vI n), (3, .ip (za true p) 0), (6, vB false), (7, vI i)], []⟩) (fun i => x.kids.length - i) 0 ⟨by simp, by simp⟩ ?_ ?_
 · refine Ent.weak ?_ ?_ ?_ ?_ <;> simp +decide [subT, subB, zk, zj, zl, St.get, look, vI, vB, vS, cI, cS, cB, zg, za, roI]
 · rintro i ⟨hi, hq⟩
   refine ze zf _ ?_
   by_cases h' : i < x.kids.length
   · have e : ((i : Int) < (x.kids.length : Int)) = True := by simp [h']
     have hs := hrec i h'
     simp +decide only [e, hc1, hx, zg, Int.natCast_nonneg, vB, vI, zb, za, hpin, go_sem, reduceAdd, reduceMul]
     refine Tri.sched zf [(1, true), (2, true), (4, true), (8, true), (0, true), (3, false), (5, false), (6, false), (7, false), (9, false), (10, false), (11, false), (12, false)] zV (by kernel_rfl) (fun C2 hC2 => ?_)
     have hp2 := zY hC2 hpin
     simp +decide only [e, hc1, hx, h', zq _ _ h', zg, Int.natCast_nonneg, zb, za, hp2, go_sem, reduceAdd, reduceMul]
     refine zd hs hp2 ?_
     cases hc : Yb p l x.kids[i].toNat with
     | false =>
       have hff : x.kids.all (fun kid => Yb p l kid.toNat) = false := by rw [List.all_eq_false]; exact ⟨x.kids[i], List.getElem_mem h', by simp [hc]⟩
       rw [hff] at heq
       simp +decide only [heq, zb, za, hp2, hpin, go_sem, reduceAdd, reduceMul]
     | true =>
       simp +decide only [zb, za, hp2, hpin, go_sem, reduceAdd, reduceMul]
       refine ⟨i + 1, ⟨h', by rw [zbC h', hq, hc]; rfl⟩, by omega, Ent.weak ?_ ?_ ?_ ?_⟩
       all_goals simp +decide [subT, subB, zk, zj, zl, St.get, look, vI, vB, vS, cI, cS, cB, zg, za, roI, w64s (n := x.kids.length) h' (by omega)]
   · have hil : i = x.kids.length := by omega
     subst hil
     have e : ((x.kids.length : Int) < (x.kids.length : Int)) = False := by simp
     rw [List.take_length] at hq
     rw [hq] at heq
     simp +decide only [e, hc1, hx, zg, Int.natCast_nonneg, vB, vI, zb, za, hpin, go_sem, reduceAdd, reduceMul]
     refine ze zf _ ?_
     simp +decide only [heq, zb, za, hpin, go_sem, reduceAdd, reduceMul]
theorem zmY (p : ProgramD) (hD : Deep p.nodes) (l : List VarD) (hl : l.length <= 4194304) (hf : p.fns.length <= 1048576) (hn : p.nodes.length <= 1048576) (hk : ∀ x ∈ p.nodes, x.kids.length <= 300) (n : Nat) (hnl : n < p.nodes.length) (ih : ∀ m, m < n -> zgu p l m) : zjl p l n := by
 intro hst
 have heq := zbw l hnl
 unfold stB at heq
 rw [zF hnl] at hst heq
 have hkid := hD.kid hnl
 have hx : (rows (zg true) p.nodes).getD n [] = zg true p.nodes[n] := zh _ _ hnl
 have hsr := zx (show inI p.nodes[n].kind 13 19 = true from hst)
 have v20 : (p.nodes[n].kind == 20) = false := by apply Bool.eq_false_iff.2; intro hh; have := eq_of_beq hh; omega
 have hsh := zx (xP (hD.deep n hnl) hnl)
 have hpos : 0 < p.nodes[n].kids.length := by
   have h1 : 1 <= (zG p.nodes[n].kind).1 := by
     rcases (show p.nodes[n].kind = 13 \/ p.nodes[n].kind = 14 \/ p.nodes[n].kind = 15 \/ p.nodes[n].kind = 16 \/ p.nodes[n].kind = 17 \/ p.nodes[n].kind = 18 \/ p.nodes[n].kind = 19 by omega) with h | h | h | h | h | h | h <;> rw [h] <;> decide
   omega
 have hv0 : Yb p l p.nodes[n].kids[0].toNat = true := by
   have hft := Zq (hD.deep n hnl) hnl hpos
   obtain ⟨q0, q1, q2⟩ := hkid p.nodes[n].kids[0] (List.getElem_mem hpos)
   have e : p.nodes[n].kids[0] = (p.nodes[n].kids[0].toNat : Int) := by omega
   refine zmD hD l _ (by omega) ?_
   rw [<- e]
   unfold yC at hft
   have h00 : decide ((0 : Int) < ((0 : Nat) : Int)) = false := by decide
   rw [v20, if_neg (by decide), h00, Bool.and_false, if_neg (by decide)] at hft
   split at hft
   · have := eq_of_beq hft; rw [this]; decide
   · exact hft
 have hblk : ∀ i (hi : i < p.nodes[n].kids.length), 0 < i -> ((p.nodes[n].kind == 16) = true \/ (p.nodes[n].kind == 17) = true) -> zu Tryz.prog 107 [.ro (zb p), .ro (.imm 96 (rows (varC true) l)), .ro (.sc (.int .i64 p.nodes[n].kids[i]))] (fun rs st => rs = [(false, [cB (Yb p l p.nodes[n].kids[i].toNat)])]) := fun i hi hi0 h67 => by
   have hft := Zq (hD.deep n hnl) hnl hi
   unfold yC at hft
   have h68 : (p.nodes[n].kind == 16 || p.nodes[n].kind == 17) = true := by rw [Bool.or_eq_true]; exact h67
   have hi1 : decide ((0 : Int) < (i : Int)) = true := decide_eq_true (by omega)
   rw [v20, if_neg (by decide), h68, hi1, Bool.true_and, if_pos rfl] at hft
   obtain ⟨q0, q1, q2⟩ := hkid p.nodes[n].kids[i] (List.getElem_mem hi)
   have e : p.nodes[n].kids[i] = (p.nodes[n].kids[i].toNat : Int) := by omega
   have := ih p.nodes[n].kids[i].toNat q2 (by rw [<- e]; exact hft)
   rw [<- e] at this
   exact this
 generalize Yb p l n = R at heq |-
 have hc1 : ((n : Int) < (p.nodes.length : Int)) = True := eq_true (by omega)
 generalize p.nodes[n] = x at hkid hsh heq hx hsr hpos hv0 hblk
 have hvt := zbY l x.name hl
 have hg0 : (row1 cI x.kids).getD (Int.toNat 0) [] = [cI x.kids[0]] := zq cI x.kids hpos
 have hc0 : ((0 : Int) < (x.kids.length : Int)) = True := eq_true (by omega)
 have hk0 : x.kids.getD 0 0 = x.kids[0] := by simp [List.getD, hpos]
 obtain ⟨q0, q1, q2⟩ := hkid x.kids[0] (List.getElem_mem hpos)
 obtain ⟨m, hm⟩ : ∃ m : Nat, x.kids[0] = m := ⟨x.kids[0].toNat, by omega⟩
 have hml : m < p.nodes.length := by omega
 have hty := YH p hD l hl hf hn hk m hml
 have hsg := zom p l hf hk m hml (fun kid hkk => by
   obtain ⟨r0, r1, r2⟩ := hD.kid hml kid hkk
   have e : kid = (kid.toNat : Int) := by omega
   have := YH p hD l hl hf hn hk kid.toNat (by omega)
   rw [<- e] at this
   exact this)
 have hone : x.kids.length = 1 -> x.kids.all (fun kid => Yb p l kid.toNat) = true := fun h1 => by rw [zpH _ h1, hk0]; exact hv0
 have hhead : zeI (yl p l) x = yl p l m := by unfold zeI; rw [if_pos hpos, hk0, hm]
 unfold zeT at heq
 rw [hhead, hk0, hm, zF hml] at heq
 rw [hm] at hg0
 generalize XY l x.name = tv at hvt heq
 generalize yl p l m = t at hty heq
 simp only [zb] at hty hsg hblk
 simp only [cI] at hg0
 refine zm (fn := Tryz.f168) (c := Tryz.f168.body.getD .skip) (res := [.tm 6]) (n := 110) zf (by kernel_rfl) (by rfl) (by kernel_rfl) (by rfl) (by rfl) (by simp [zp]) (fun uf ub C hpin hpin2 hfull => ?_)
 simp only [Tryz.f168, Option.getD_some]
 refine Tri.step zf ?_
 simp +decide only [zb, za, hpin, go_sem, reduceAdd, reduceMul]
 refine Tri.ent ?_ (Ent.frb hfull 3)
 refine Tri.step zf ?_
 simp +decide only [hc1, hx, zg, Int.natCast_nonneg, zb, za, hpin, go_sem, reduceAdd, reduceMul]
 refine Tri.ent ?_ (Ent.frb hfull 7)
 refine Tri.step zf ?_
 simp +decide only [zb, za, hpin, go_sem, reduceAdd, reduceMul]
 refine Tri.step zf ?_
 cases h19 : x.kind == 19 with
 | true =>
   have ek := eq_of_beq h19
   rw [ek] at heq hsh
   have h1 : x.kids.length = 1 := by have h1 := hsh.1; have h2 := hsh.2; simp [zG] at h1 h2; omega
   rw [hone h1, Bool.and_true] at heq
   simp +decide only [Bool.or_true, Bool.true_or, Bool.or_false, Bool.false_or, if_true, if_false, Int.reduceBEq, Bool.false_eq_true] at heq
   rw [<- heq] at hsg
   simp +decide only [h19, zg, zb, za, hpin, go_sem, reduceAdd, reduceMul]
   refine Tri.fork zf (.one 1 true (.one 2 true (.one 0 true (.one 3 true (.one 4 true (.one 5 true (.two 6 (.one 7 true (.one 8 true (.one 9 true (.one 10 false (.one 11 false (.one 12 false .done)))))) 10 (.one 6 false (.one 7 false (.one 8 true (.one 9 true (.one 11 false (.one 12 false .done))))))))))))) zV (by kernel_rfl) (fun C2 hC2 => ?_)
   have hp2 := zY hC2 hpin
   simp +decide only [hg0, hc0, hpos, zb, za, hp2, go_sem, reduceAdd, reduceMul]
   refine ⟨?_, ?_⟩
   all_goals refine zkf hsg hp2 ?_ ?_
   all_goals first | (simp +decide only [zb, za, hp2, go_sem, reduceAdd, reduceMul]; done) | skip
   all_goals rintro ⟨qa, qz, qr, qb, qc⟩ hq
   all_goals unfold sigR
   all_goals simp +decide only [zb, za, hp2, hpin, go_sem, reduceAdd, reduceMul]
 | false =>
 simp +decide only [h19, zg, zb, za, hpin, go_sem, reduceAdd, reduceMul]
 refine Tri.step zf ?_
 refine Tri.sched zf [(1, true), (2, true), (0, true), (3, false), (4, false), (5, false), (6, false), (7, false)] zV (by kernel_rfl) (fun C2 hC2 => ?_)
 have hp2 := zY hC2 hpin
 simp +decide only [hg0, hc0, hpos, zg, zb, za, hp2, go_sem, reduceAdd, reduceMul]
 refine zd hty hp2 ?_
 simp +decide only [zb, za, hp2, hpin, go_sem, reduceAdd, reduceMul]
 refine Tri.step zf ?_
 simp +decide only [zb, za, hpin, go_sem, reduceAdd, reduceMul]
 refine zd hvt hpin ?_
 simp +decide only [zb, za, hpin, go_sem, reduceAdd, reduceMul]
 refine Tri.step zf ?_
 cases h13 : x.kind == 13 with
 | true =>
   have ek := eq_of_beq h13
   rw [ek] at heq hsh
   have hln : x.kids.length = 1 := by have h1 := hsh.1; have h2 := hsh.2; simp [zG] at h1 h2; omega
   rw [hone hln, Bool.and_true] at heq
   simp +decide only [Bool.or_true, Bool.true_or, Bool.or_false, Bool.false_or, if_true, if_false, Int.reduceBEq, Bool.false_eq_true] at heq
   simp +decide only [h19, h13, heq, Bool.or_true, Bool.true_or, Bool.or_false, Bool.false_or, bne, zg, zb, za, hp2, hpin, go_sem, reduceAdd, reduceMul]
 | false =>
 cases h14 : x.kind == 14 with
 | true =>
   have ek := eq_of_beq h14
   rw [ek] at heq hsh
   have hln : x.kids.length = 1 := by have h1 := hsh.1; have h2 := hsh.2; simp [zG] at h1 h2; omega
   rw [hone hln, Bool.and_true] at heq
   simp +decide only [Bool.or_true, Bool.true_or, Bool.or_false, Bool.false_or, if_true, if_false, Int.reduceBEq, Bool.false_eq_true] at heq
   cases e1 : t == tv with
   | false =>
     simp only [e1, Bool.true_and, Bool.false_and, Bool.true_or, Bool.false_or, Bool.or_false] at heq
     simp +decide only [h19, h13, h14, e1, heq, Bool.or_true, Bool.true_or, Bool.or_false, Bool.false_or, bne, zg, zb, za, hp2, hpin, go_sem, reduceAdd, reduceMul]
   | true =>
   cases e2 : t == 1 with
   | true =>
     simp only [e1, e2, Bool.true_and, Bool.false_and, Bool.true_or, Bool.false_or, Bool.or_false] at heq
     simp +decide only [h19, h13, h14, e1, e2, heq, Bool.or_true, Bool.true_or, Bool.or_false, Bool.false_or, bne, zg, zb, za, hp2, hpin, go_sem, reduceAdd, reduceMul]
   | false =>
   cases e3 : t == 2 with
   | true =>
     simp only [e1, e2, e3, Bool.true_and, Bool.false_and, Bool.true_or, Bool.false_or, Bool.or_false] at heq
     simp +decide only [h19, h13, h14, e1, e2, e3, heq, Bool.or_true, Bool.true_or, Bool.or_false, Bool.false_or, bne, zg, zb, za, hp2, hpin, go_sem, reduceAdd, reduceMul]
   | false =>
     simp only [e1, e2, e3, Bool.true_and, Bool.false_and, Bool.true_or, Bool.false_or, Bool.or_false] at heq
     simp +decide only [h19, h13, h14, e1, e2, e3, heq, Bool.or_true, Bool.true_or, Bool.or_false, Bool.false_or, bne, zg, zb, za, hp2, hpin, go_sem, reduceAdd, reduceMul]
 | false =>
 cases h15 : x.kind == 15 with
 | true =>
   have ek := eq_of_beq h15
   rw [ek] at heq hsh
   have hln : x.kids.length = 1 := by have h1 := hsh.1; have h2 := hsh.2; simp [zG] at h1 h2; omega
   rw [hone hln, Bool.and_true] at heq
   simp +decide only [Bool.or_true, Bool.true_or, Bool.or_false, Bool.false_or, if_true, if_false, Int.reduceBEq, Bool.false_eq_true] at heq
   cases e1 : t == 1 with
   | false =>
     simp only [e1, Bool.true_and, Bool.false_and, Bool.true_or, Bool.false_or, Bool.or_false] at heq
     simp +decide only [h19, h13, h14, h15, e1, heq, Bool.or_true, Bool.true_or, Bool.or_false, Bool.false_or, bne, zg, zb, za, hp2, hpin, go_sem, reduceAdd, reduceMul]
   | true =>
   cases e2 : tv == 2 with
   | true =>
     simp only [e1, e2, Bool.true_and, Bool.false_and, Bool.true_or, Bool.false_or, Bool.or_false] at heq
     simp +decide only [h19, h13, h14, h15, e1, e2, heq, Bool.or_true, Bool.true_or, Bool.or_false, Bool.false_or, bne, zg, zb, za, hp2, hpin, go_sem, reduceAdd, reduceMul]
   | false =>
   cases e3 : tv == 4 with
   | true =>
     simp only [e1, e2, e3, Bool.true_and, Bool.false_and, Bool.true_or, Bool.false_or, Bool.or_false] at heq
     simp +decide only [h19, h13, h14, h15, e1, e2, e3, heq, Bool.or_true, Bool.true_or, Bool.or_false, Bool.false_or, bne, zg, zb, za, hp2, hpin, go_sem, reduceAdd, reduceMul]
   | false =>
     simp only [e1, e2, e3, Bool.true_and, Bool.false_and, Bool.true_or, Bool.false_or, Bool.or_false] at heq
     simp +decide only [h19, h13, h14, h15, e1, e2, e3, heq, Bool.or_true, Bool.true_or, Bool.or_false, Bool.false_or, bne, zg, zb, za, hp2, hpin, go_sem, reduceAdd, reduceMul]
 | false =>
 cases h16 : x.kind == 16 with
 | true =>
   have hb67 : (x.kind == 16) = true \/ (x.kind == 17) = true := Or.inl h16
   have ek := eq_of_beq h16
   rw [ek] at heq hsh
   have hln : x.kids.length = 3 := by have h1 := hsh.1; have h2 := hsh.2; simp [zG] at h1 h2; omega
   simp +decide only [Bool.or_true, Bool.true_or, Bool.or_false, Bool.false_or, if_true, if_false, Int.reduceBEq, Bool.false_eq_true] at heq
   have hg1 : (row1 cI x.kids).getD (Int.toNat 1) [] = [cI (x.kids[1]'(by omega))] := zq cI x.kids (by omega)
   have hc01 : ((1 : Int) < (x.kids.length : Int)) = True := eq_true (by omega)
   have hk1 : x.kids.getD 1 0 = x.kids[1]'(by omega) := by simp [List.getD, show 1 < x.kids.length by omega]
   have hb1 := hblk 1 (by omega) (by omega) hb67
   have hg2 : (row1 cI x.kids).getD (Int.toNat 2) [] = [cI (x.kids[2]'(by omega))] := zq cI x.kids (by omega)
   have hc02 : ((2 : Int) < (x.kids.length : Int)) = True := eq_true (by omega)
   have hk2 : x.kids.getD 2 0 = x.kids[2]'(by omega) := by simp [List.getD, show 2 < x.kids.length by omega]
   have hb2 := hblk 2 (by omega) (by omega) hb67
   rw [zmO _ hln, hk0, hk1, hk2, hv0, Bool.true_and] at heq
   simp only [cI] at hg1 hg2
   simp +decide only [h19, h13, h14, h15, h16, Bool.or_true, Bool.true_or, Bool.or_false, Bool.false_or, bne, zg, zb, za, hp2, hpin, go_sem, reduceAdd, reduceMul]
   refine Tri.sched zf [(0, false), (1, false), (2, false), (4, true), (5, true), (3, true), (6, false), (7, false), (8, false), (9, false), (10, false), (11, false), (13, true), (14, true), (12, true), (15, false), (16, false), (17, false), (18, false), (19, false), (20, false)] zV (by kernel_rfl) (fun C3 hC3 => ?_)
   have hp3 := zY hC3 hpin
   cases e1 : t == 1 with
   | false =>
     rw [e1, Bool.false_and] at heq
     simp +decide only [e1, heq, hg1, hg2, hc01, hc02, zb, za, hp3, hpin, go_sem, reduceAdd, reduceMul]
     try (refine ze zf _ ?_; simp +decide only [heq, zb, za, hpin, go_sem, reduceAdd, reduceMul])
   | true =>
   rw [e1, Bool.true_and] at heq
   simp +decide only [e1, hg1, hg2, hc01, hc02, show 1 < x.kids.length by omega, show 2 < x.kids.length by omega, zb, za, hp3, go_sem, reduceAdd, reduceMul]
   refine zd hb1 hp3 ?_
   cases e2 : Yb p l (x.kids[1]'(by omega)).toNat with
   | false =>
     rw [e2, Bool.false_and] at heq
     simp +decide only [e2, heq, hg1, hg2, hc01, hc02, zb, za, hp3, hpin, go_sem, reduceAdd, reduceMul]
     try (refine ze zf _ ?_; simp +decide only [heq, zb, za, hpin, go_sem, reduceAdd, reduceMul])
   | true =>
   rw [e2, Bool.true_and] at heq
   simp +decide only [e2, hg1, hg2, hc01, hc02, show 1 < x.kids.length by omega, show 2 < x.kids.length by omega, zb, za, hp3, go_sem, reduceAdd, reduceMul]
   refine zd hb2 hp3 ?_
   rw [<- heq]
   simp +decide only [zb, za, hp3, hpin, go_sem, reduceAdd, reduceMul]
   try (refine ze zf _ ?_; simp +decide only [zb, za, hpin, go_sem, reduceAdd, reduceMul])
 | false =>
 cases h17 : x.kind == 17 with
 | true =>
   have hb67 : (x.kind == 16) = true \/ (x.kind == 17) = true := Or.inr h17
   have ek := eq_of_beq h17
   rw [ek] at heq hsh
   have hln : x.kids.length = 2 := by have h1 := hsh.1; have h2 := hsh.2; simp [zG] at h1 h2; omega
   simp +decide only [Bool.or_true, Bool.true_or, Bool.or_false, Bool.false_or, if_true, if_false, Int.reduceBEq, Bool.false_eq_true] at heq
   have hg1 : (row1 cI x.kids).getD (Int.toNat 1) [] = [cI (x.kids[1]'(by omega))] := zq cI x.kids (by omega)
   have hc01 : ((1 : Int) < (x.kids.length : Int)) = True := eq_true (by omega)
   have hk1 : x.kids.getD 1 0 = x.kids[1]'(by omega) := by simp [List.getD, show 1 < x.kids.length by omega]
   have hb1 := hblk 1 (by omega) (by omega) hb67
   rw [zpG _ hln, hk0, hk1, hv0, Bool.true_and] at heq
   simp only [cI] at hg1
   simp +decide only [h19, h13, h14, h15, h16, h17, Bool.or_true, Bool.true_or, Bool.or_false, Bool.false_or, bne, zg, zb, za, hp2, hpin, go_sem, reduceAdd, reduceMul]
   refine Tri.sched zf [(0, false), (1, false), (2, false), (4, true), (5, true), (3, true), (6, false), (7, false), (8, false), (9, false), (10, false), (11, false)] zV (by kernel_rfl) (fun C3 hC3 => ?_)
   have hp3 := zY hC3 hpin
   cases e1 : t == 1 with
   | false =>
     rw [e1, Bool.false_and] at heq
     simp +decide only [e1, heq, hg1, hc01, zb, za, hp3, hpin, go_sem, reduceAdd, reduceMul]
     try (refine ze zf _ ?_; simp +decide only [heq, zb, za, hpin, go_sem, reduceAdd, reduceMul])
   | true =>
   rw [e1, Bool.true_and] at heq
   simp +decide only [e1, hg1, hc01, show 1 < x.kids.length by omega, zb, za, hp3, go_sem, reduceAdd, reduceMul]
   refine zd hb1 hp3 ?_
   rw [<- heq]
   simp +decide only [zb, za, hp3, hpin, go_sem, reduceAdd, reduceMul]
   try (refine ze zf _ ?_; simp +decide only [zb, za, hpin, go_sem, reduceAdd, reduceMul])
 | false =>
 have h18 : (x.kind == 18) = true := by
   have g13 : x.kind ≠ 13 := by simpa using h13
   have g14 : x.kind ≠ 14 := by simpa using h14
   have g15 : x.kind ≠ 15 := by simpa using h15
   have g16 : x.kind ≠ 16 := by simpa using h16
   have g17 : x.kind ≠ 17 := by simpa using h17
   have g19 : x.kind ≠ 19 := by simpa using h19
   have : x.kind = 18 := by omega
   rw [this]; rfl
 have ek := eq_of_beq h18
 rw [ek] at heq hsh
 have hln : x.kids.length = 1 := by have h1 := hsh.1; have h2 := hsh.2; simp [zG] at h1 h2; omega
 rw [hone hln, Bool.and_true] at heq
 simp +decide only [Bool.or_true, Bool.true_or, Bool.or_false, Bool.false_or, if_true, if_false, Int.reduceBEq, Bool.false_eq_true] at heq
 simp +decide only [h19, h13, h14, h15, h16, h17, Bool.or_true, Bool.true_or, Bool.or_false, Bool.false_or, bne, zg, zb, za, hp2, hpin, go_sem, reduceAdd, reduceMul]
 refine ze zf _ ?_
 simp +decide only [heq, zb, za, hp2, hpin, go_sem, reduceAdd, reduceMul]
theorem zlu (p : ProgramD) (hD : Deep p.nodes) (l : List VarD) (hl : l.length <= 4194304) (hf : p.fns.length <= 1048576) (hn : p.nodes.length <= 1048576) (hk : ∀ x ∈ p.nodes, x.kids.length <= 300) (n : Nat) : n < p.nodes.length -> zjl p l n /\ zgu p l n := by
 induction n using Nat.strongRecOn with
 | ind n ih =>
 intro hnl
 exact ⟨zmY p hD l hl hf hn hk n hnl (fun m hm => (ih m hm (by omega)).2), zlv p hD l hk n hnl (fun m hm => (ih m hm (by omega)).1)⟩
theorem Yq (p : ProgramD) (hf : p.fns.length <= 1048576) (hn : p.nodes.length <= 1048576) (hk : ∀ x ∈ p.nodes, x.kids.length <= 1048576) (hpl : ∀ f ∈ p.fns, f.params.length <= 1048576) : zu Tryz.prog 34 [.ro (zb p)] (fun rs st => rs = [(false, [cB (zW p)])]) := by
 have hps := Yw p hf hn hk hpl
 simp only [zb] at hps
 unfold zW
 refine zm (fn := Tryz.f34) (c := Tryz.f34.body.getD .skip) (res := [.tm 2]) (n := 53) zf (by kernel_rfl) (by rfl) (by kernel_rfl) (by rfl) (by rfl) (by simp [zp]) (fun uf ub C hpin hpin2 hfull => ?_)
 simp only [Tryz.f34, Option.getD_some]
 refine Tri.step zf ?_
 simp +decide only [zb, za, hpin, go_sem, reduceAdd, reduceMul]
 refine Tri.ent ?_ (Ent.frb hfull 1)
 refine Tri.step zf ?_
 simp +decide only [zb, za, hpin, go_sem, reduceAdd, reduceMul]
 refine zd hps hpin ?_
 cases h0 : yi p with
 | false => simp +decide only [zb, za, hpin, go_sem, reduceAdd, reduceMul]
 | true =>
 have hG := yh (Bool.and_eq_true_iff.1 h0).1
 have hk3 : ∀ x ∈ p.nodes, x.kids.length <= 300 := fun x hx => by have := hG.deep.few x hx; omega
 simp +decide only [zb, za, hpin, go_sem, reduceAdd, reduceMul]
 refine Tri.step zf ?_
 simp +decide only [zb, za, hpin, go_sem, reduceAdd, reduceMul]
 refine Tri.loop (ι := Nat) (fun i => i <= p.fns.length /\ zJ (yZ p) i = true) (fun i => ⟨53, [(1, .ip (za true p) 0), (2, vB false), (3, vI i)], []⟩) (fun i => p.fns.length - i) 0 ⟨by simp, rfl⟩ ?_ ?_
 · refine Ent.weak ?_ ?_ ?_ ?_ <;> simp +decide [subT, subB, zk, zj, zl, St.get, look, vI, vB, vS, cI, cS, cB, zg, za, roI]
 · rintro i ⟨hi, hq⟩
   refine ze zf _ ?_
   by_cases h' : i < p.fns.length
   · have e : ((i : Int) < (p.fns.length : Int)) = True := by simp [h']
     have hx : (rows (fnC true) p.fns).getD i [] = fnC true p.fns[i] := zh _ _ h'
     have hok := hG.fn i h'
     have hfe : yZ p i = (YZ p i && (Yb p (zL p i) p.fns[i].body.toNat && (decide (p.fns[i].ret < 0) || yl p (zL p i) p.fns[i].ret == p.fns[i].res))) := by unfold yZ; rw [yS h']
     obtain ⟨⟨b0, b1⟩, hret⟩ := xT hok
     have hbk : (nAt p.nodes p.fns[i].body).kind == 20 := by
       simp only [YV, Bool.and_eq_true, zaD] at hok
       exact hok.2.2.2.2.1.2
     generalize p.fns[i] = g at hx hok hfe b0 b1 hret hbk
     have hts := zbX p hG.deep i hf hn hk3 hpl
     have hll := Zz p i hpl hn
     obtain ⟨b, hbb⟩ : ∃ b : Nat, g.body = b := ⟨g.body.toNat, by omega⟩
     have hbl : b < p.nodes.length := by omega
     rw [hbb] at hfe hbk
     rw [show (b : Int).toNat = b by omega] at hfe
     simp only [zb] at hts
     simp +decide only [e, h', Int.natCast_nonneg, za, vB, vI, zb, za, hpin, go_sem, reduceAdd, reduceMul]
     cases hB : YZ p i with
     | false =>
       have hff : zJ (yZ p) p.fns.length = false := zw h' (by rw [hfe, hB]; rfl)
       rw [hB] at hts
       simp only [if_false, Bool.false_eq_true] at hts
       refine zd hts hpin ?_
       simp +decide only [e, hx, fnC, hbb, Int.natCast_nonneg, zb, za, hpin, go_sem, reduceAdd, reduceMul]
       refine Tri.ent ?_ (Ent.frb hfull 6)
       simp +decide only [zb, za, hpin, go_sem, reduceAdd, reduceMul]
       refine Tri.sched zf [(0, false), (1, false), (2, false), (4, true), (5, true), (3, true), (6, false), (7, false), (8, false), (9, false), (10, false), (11, false), (12, false), (13, false), (14, false), (16, true), (17, true), (20, true), (15, true), (18, true), (21, true), (19, false), (22, false), (23, false), (24, false)] zV (by kernel_rfl) (fun C2 hC2 => ?_)
       have hp2 := zY hC2 hpin
       simp +decide only [hff, zb, za, hp2, hpin, go_sem, reduceAdd, reduceMul]
     | true =>
     rw [hB] at hts
     rw [hB, Bool.true_and] at hfe
     simp only [if_true] at hts
     refine zd hts hpin ?_
     generalize zL p i = l at hll hfe |-
     have hbs := (zlu p hG.deep l (by omega) hf hn hk3 b hbl).2 hbk
     have htk := yq (varC false) l
     have htk2 := yq (varC true) l
     simp only [zb] at hbs
     simp +decide only [e, hx, fnC, hbb, Int.natCast_nonneg, zb, za, hpin, go_sem, reduceAdd, reduceMul]
     refine Tri.ent ?_ (Ent.frb hfull 6)
     refine Tri.ent ?_ (Ent.frz hfull 4)
     simp +decide only [zb, za, hpin, go_sem, reduceAdd, reduceMul]
     refine Tri.sched zf [(0, false), (1, false), (2, false), (4, true), (5, true), (3, true), (6, false), (7, false), (8, false), (9, false), (10, false), (11, false), (12, false), (13, false), (14, false), (16, true), (17, true), (20, true), (15, true), (18, true), (21, true), (19, false), (22, false), (23, false), (24, false)] zV (by kernel_rfl) (fun C2 hC2 => ?_)
     have hp2 := zY hC2 hpin
     simp +decide only [hbb, zb, za, hp2, go_sem, reduceAdd, reduceMul]
     refine zd hbs hp2 ?_
     cases hc : Yb p l b with
     | false =>
       rw [hc, Bool.false_and] at hfe
       have hff : zJ (yZ p) p.fns.length = false := zw h' hfe
       simp +decide only [hff, zb, za, hp2, hpin, go_sem, reduceAdd, reduceMul]
     | true =>
     rw [hc, Bool.true_and] at hfe
     rcases hret with hneg | ⟨x0, x1⟩
     · have y0 : (0 <= g.ret) = False := eq_false (by omega)
       have y1 : decide (g.ret < 0) = true := decide_eq_true hneg
       rw [y1, Bool.true_or] at hfe
       simp +decide only [y0, ge_iff_le, zb, za, hp2, hpin, go_sem, reduceAdd, reduceMul]
       refine ⟨i + 1, ⟨h', by rw [zN, hq, hfe]; rfl⟩, by omega, Ent.weak ?_ ?_ ?_ ?_⟩
       all_goals simp +decide [subT, subB, zk, zj, zl, St.get, look, vI, vB, vS, cI, cS, cB, zg, za, roI, w64s (n := p.fns.length) h' (by omega)]
     · have y0 : (0 <= g.ret) = True := eq_true x0
       have y1 : decide (g.ret < 0) = false := decide_eq_false (by omega)
       rw [y1, Bool.false_or] at hfe
       obtain ⟨r, hrr⟩ : ∃ r : Nat, g.ret = r := ⟨g.ret.toNat, by omega⟩
       have hrl : r < p.nodes.length := by omega
       have hty := YH p hG.deep l (by omega) hf hn hk3 r hrl
       rw [hrr] at hfe
       simp only [zb] at hty
       simp +decide only [y0, hrr, ge_iff_le, Int.natCast_nonneg, zb, za, hp2, go_sem, reduceAdd, reduceMul]
       refine zd hty hp2 ?_
       cases g2 : yl p l r == g.res with
       | false =>
         rw [g2] at hfe
         have hff : zJ (yZ p) p.fns.length = false := zw h' hfe
         simp +decide only [g2, hff, bne, zb, za, hp2, hpin, go_sem, reduceAdd, reduceMul]
       | true =>
         rw [g2] at hfe
         simp +decide only [g2, bne, zb, za, hp2, hpin, go_sem, reduceAdd, reduceMul]
         refine ⟨i + 1, ⟨h', by rw [zN, hq, hfe]; rfl⟩, by omega, Ent.weak ?_ ?_ ?_ ?_⟩
         all_goals simp +decide [subT, subB, zk, zj, zl, St.get, look, vI, vB, vS, cI, cS, cB, zg, za, roI, w64s (n := p.fns.length) h' (by omega)]
   · have hil : i = p.fns.length := by omega
     subst hil
     have e : ((p.fns.length : Int) < (p.fns.length : Int)) = False := by simp
     simp +decide only [e, vB, vI, zb, za, hpin, go_sem, reduceAdd, reduceMul]
     refine ze zf _ ?_
     simp +decide only [hq, zb, za, hpin, go_sem, reduceAdd, reduceMul]
theorem zbm (l : List Int) : (row1 cI l).all (fun x => x.all XA) = true := by simp [row1, cI, XA]
theorem zau (l : List ParamD) : (rows (zr true) l).all (fun x => x.all XA) = true := by simp [rows, zr, cI, cS, XA]
theorem zdt (l : List ParamD) : rows (zr true) l = rows (zr false) l := rfl
theorem zhq (l : List NodeD) (x : NodeD) : rows (zg false) l ++ [[D.sc (.int .i64 x.kind), .sc (.int .i64 x.num), .sc (.string x.name), .row false 3 (row1 cI x.kids)]] = rows (zg false) (l ++ [x]) := Xp (zg false) l x
theorem zmx (l : List FnD) (x : FnD) : rows (fnC false) l ++ [[D.sc (.string x.name), .row false 107 (rows (zr false) x.params), .sc (.int .i64 x.res), .sc (.int .i64 x.body), .sc (.int .i64 x.ret)]] = rows (fnC false) (l ++ [x]) := Xp (fnC false) l x
theorem zfC {α : Type} {l : List α} {i : Nat} (h : i < l.length) : l.take (i + 1) = l.take i ++ [l[i]] := List.take_succ_eq_append_getElem h
theorem zbH {α : Type} {l : List α} {i : Nat} (h : i <= l.length) : (l.take i).length = i := by simp; omega
theorem zaj (l : List Int) (hl : l.length <= 1048576) : zu Tryz.prog 99 [.ro (roI l)] (fun rs st => rs = [(false, [.row false 3 (row1 cI l)])]) := by
 have hf := zbm l
 have hb1 : l.length <= 140737488355328 := by omega
 have hb2 : l.length * 8 <= 140737488355328 := by omega
 refine zm (fn := Tryz.f99) (c := Tryz.f99.body.getD .skip) (res := [.tm 2]) (n := 5) zf (by kernel_rfl) (by rfl) (by kernel_rfl) (by rfl) (by rfl) (by simp [zp]) (fun uf ub C hpin hpin2 hfull => ?_)
 simp only [Tryz.f99, Option.getD_some]
 refine Tri.step zf ?_
 simp +decide only [zb, za, hpin, go_sem, reduceAdd, reduceMul]
 refine ze zf _ ?_
 simp +decide only [hf, hb1, hb2, zb, za, hpin, go_sem, reduceAdd, reduceMul]
theorem zcy (l : List NodeD) (hl : l.length <= 1048576) (hk : ∀ x ∈ l, x.kids.length <= 1048576) : zu Tryz.prog 140 [.ro (.imm 83 (rows (zg true) l))] (fun rs st => rs = [(false, [.row false 83 (rows (zg false) l)])]) := by
 refine zm (fn := Tryz.f140) (c := Tryz.f140.body.getD .skip) (res := [.tm 2]) (n := 22) zf (by kernel_rfl) (by rfl) (by kernel_rfl) (by rfl) (by rfl) (by simp [zp]) (fun uf ub C hpin hpin2 hfull => ?_)
 simp only [Tryz.f140, Option.getD_some]
 refine Tri.step zf ?_
 simp +decide only [zb, za, hpin, go_sem, reduceAdd, reduceMul]
 refine Tri.step zf ?_
 simp +decide only [zb, za, hpin, go_sem, reduceAdd, reduceMul]
 refine Tri.step zf ?_
 simp +decide only [zb, za, hpin, go_sem, reduceAdd, reduceMul]
 refine Tri.loop (ι := Nat) (fun i => i <= l.length) (fun i => ⟨22, [(3, .ref 3 [] i), (6, .imm 83 (rows (zg true) l)), (7, vI l.length), (8, vI i)], [(3, .row 83 (rows (zg false) (l.take i)))]⟩) (fun i => l.length - i) 0 (by simp) ?_ ?_
 · refine Ent.weak ?_ ?_ ?_ ?_ <;> simp +decide [subT, subB, zk, zj, zl, St.get, look, vI, vB, vS, cI, cS, cB, zg, za, roI, rows]
 · rintro i hi
   refine ze zf _ ?_
   have htl := zbH hi
   by_cases h' : i < l.length
   · have e : ((i : Int) < (l.length : Int)) = True := by simp [h']
     have hx : (rows (zg true) l).getD i [] = zg true l[i] := zh _ _ h'
     have hkx := hk l[i] (List.getElem_mem h')
     have hsn := zhq (l.take i) l[i]
     rw [<- zfC h'] at hsn
     generalize l[i] = x at hx hkx hsn
     have hb1 : i + 1 <= 140737488355328 := by omega
     have hb2 : (i + 1) * 56 <= 140737488355328 := by omega
     simp +decide only [e, h', hx, zg, Int.natCast_nonneg, vB, vI, zb, za, hpin, go_sem, reduceAdd, reduceMul]
     refine zd (zaj x.kids hkx) hpin ?_
     simp +decide only [hb1, hb2, htl, hsn, zb, za, hpin, go_sem, reduceAdd, reduceMul]
     refine ⟨i + 1, h', by omega, Ent.weak ?_ ?_ ?_ ?_⟩
     all_goals simp +decide [subT, subB, zk, zj, zl, St.get, look, vI, vB, vS, cI, cS, cB, zg, za, roI, hsn, w64s (n := l.length) h' (by omega)]
   · have hil : i = l.length := by omega
     subst hil
     have e : ((l.length : Int) < (l.length : Int)) = False := by simp
     simp +decide only [e, vB, vI, zb, za, hpin, go_sem, reduceAdd, reduceMul]
     refine ze zf _ ?_
     simp +decide only [zb, za, hpin, go_sem, reduceAdd, reduceMul]
theorem zcx (l : List NodeD) (hl : l.length <= 1048576) (hk : ∀ x ∈ l, x.kids.length <= 1048576) : zu Tryz.prog 129 [.ro (.imm 83 (rows (zg true) l))] (fun rs st => rs = [(false, [.row false 83 (rows (zg false) l)])]) := by
 refine zm (fn := Tryz.f129) (c := Tryz.f129.body.getD .skip) (res := [.tm 2]) (n := 27) zf (by kernel_rfl) (by rfl) (by kernel_rfl) (by rfl) (by rfl) (by simp [zp]) (fun uf ub C hpin hpin2 hfull => ?_)
 simp only [Tryz.f129, Option.getD_some]
 refine Tri.step zf ?_
 simp +decide only [zb, za, hpin, go_sem, reduceAdd, reduceMul]
 refine Tri.step zf ?_
 simp +decide only [zb, za, hpin, go_sem, reduceAdd, reduceMul]
 refine Tri.step zf ?_
 simp +decide only [zb, za, hpin, go_sem, reduceAdd, reduceMul]
 refine Tri.loop (ι := Nat) (fun i => i <= l.length) (fun i => ⟨27, [(0, .imm 83 (rows (zg true) l)), (3, .ref 3 [] i), (4, vI i)], [(3, .row 83 (rows (zg false) (l.take i)))]⟩) (fun i => l.length - i) 0 (by simp) ?_ ?_
 · refine Ent.weak ?_ ?_ ?_ ?_ <;> simp +decide [subT, subB, zk, zj, zl, St.get, look, vI, vB, vS, cI, cS, cB, zg, za, roI, rows]
 · rintro i hi
   refine ze zf _ ?_
   have htl := zbH hi
   by_cases h' : i < l.length
   · have e : ((i : Int) < (l.length : Int)) = True := by simp [h']
     have hx : (rows (zg true) l).getD i [] = zg true l[i] := zh _ _ h'
     have hkx := hk l[i] (List.getElem_mem h')
     have hsn := zhq (l.take i) l[i]
     rw [<- zfC h'] at hsn
     generalize l[i] = x at hx hkx hsn
     have hf := zbm x.kids
     have hb1 : i + 1 <= 140737488355328 := by omega
     have hb2 : (i + 1) * 56 <= 140737488355328 := by omega
     have hb3 : x.kids.length <= 140737488355328 := by omega
     have hb4 : x.kids.length * 8 <= 140737488355328 := by omega
     simp +decide only [e, h', hx, hf, hb1, hb2, hb3, hb4, htl, hsn, zg, Int.natCast_nonneg, vB, vI, zb, za, hpin, go_sem, reduceAdd, reduceMul]
     refine ⟨i + 1, h', by omega, Ent.weak ?_ ?_ ?_ ?_⟩
     all_goals simp +decide [subT, subB, zk, zj, zl, St.get, look, vI, vB, vS, cI, cS, cB, zg, za, roI, hsn, w64s (n := l.length) h' (by omega)]
   · have hil : i = l.length := by omega
     subst hil
     have e : ((l.length : Int) < (l.length : Int)) = False := by simp
     simp +decide only [e, vB, vI, zb, za, hpin, go_sem, reduceAdd, reduceMul]
     refine ze zf _ ?_
     simp +decide only [zb, za, hpin, go_sem, reduceAdd, reduceMul]
theorem zco (f : FnD) (hp : f.params.length <= 1048576) : zu Tryz.prog 141 [.ro (fnW f)] (fun rs st => rs = [(true, fnC false f)]) := by
 have hf := zau f.params
 have hb1 : f.params.length <= 140737488355328 := by omega
 have hb2 : f.params.length * 24 <= 140737488355328 := by omega
 have htf := zdt f.params
 refine zm (fn := Tryz.f141) (c := Tryz.f141.body.getD .skip) (res := [.ce 2 104]) (n := 8) zf (by kernel_rfl) (by rfl) (by kernel_rfl) (by rfl) (by rfl) (by simp [zp]) (fun uf ub C hpin hpin2 hfull => ?_)
 simp only [Tryz.f141, Option.getD_some]
 refine Tri.step zf ?_
 simp +decide only [fnW, fnC, zb, za, hpin, go_sem, reduceAdd, reduceMul]
 refine Tri.step zf ?_
 simp +decide only [hf, hb1, hb2, fnW, fnC, zb, za, hpin, go_sem, reduceAdd, reduceMul]
 refine ze zf _ ?_
 simp +decide only [htf, fnW, fnC, zb, za, hpin, go_sem, reduceAdd, reduceMul]
theorem YD (p : ProgramD) (hf : p.fns.length <= 1048576) (hn : p.nodes.length <= 1048576) (hk : ∀ x ∈ p.nodes, x.kids.length <= 1048576) (hpl : ∀ f ∈ p.fns, f.params.length <= 1048576) :
   zu Tryz.prog 62 [.ro (zb p)] (fun rs st => rs = [(true, za false p)]) := by
 refine zm (fn := Tryz.f62) (c := Tryz.f62.body.getD .skip) (res := [.ce 2 36]) (n := 26) zf (by kernel_rfl) (by rfl) (by kernel_rfl) (by rfl) (by rfl) (by simp [zp]) (fun uf ub C hpin hpin2 hfull => ?_)
 simp only [Tryz.f62, Option.getD_some]
 refine Tri.step zf ?_
 simp +decide only [zb, za, hpin, go_sem, reduceAdd, reduceMul]
 refine Tri.ent ?_ (Ent.frb hfull 1)
 refine Tri.step zf ?_
 simp +decide only [zb, za, hpin, go_sem, reduceAdd, reduceMul]
 refine zd (zcy p.nodes hn hk) hpin ?_
 simp +decide only [zb, za, hpin, go_sem, reduceAdd, reduceMul]
 refine Tri.ent ?_ (Ent.nilr 3 1 104)
 refine Tri.step zf ?_
 simp +decide only [zb, za, hpin, go_sem, reduceAdd, reduceMul]
 refine Tri.loop (ι := Nat) (fun i => i <= p.fns.length) (fun i => ⟨26, [(2, .bp 2 0), (3, .bp 3 0), (11, .imm 104 (rows (fnC true) p.fns)), (12, vI p.fns.length), (13, vI i)], [(2, .box [.sc (.slice none 0 0), .sc (.slice none 0 0)]), (3, .box [.row false 83 (rows (zg false) p.nodes), .row false 104 (rows (fnC false) (p.fns.take i))])]⟩) (fun i => p.fns.length - i) 0 (by simp) ?_ ?_
 · refine Ent.weak ?_ ?_ ?_ ?_ <;> simp +decide [subT, subB, zk, zj, zl, St.get, look, vI, vB, vS, cI, cS, cB, zg, za, roI, rows, St.nilr, St.swap]
 · rintro i hi
   refine ze zf _ ?_
   have htl := zbH hi
   by_cases h' : i < p.fns.length
   · have e : ((i : Int) < (p.fns.length : Int)) = True := by simp [h']
     have hx : (rows (fnC true) p.fns).getD i [] = fnC true p.fns[i] := zh _ _ h'
     have hkx := hpl p.fns[i] (List.getElem_mem h')
     have hsn := zmx (p.fns.take i) p.fns[i]
     rw [<- zfC h'] at hsn
     generalize p.fns[i] = f at hx hkx hsn
     have hcf := zco f hkx
     simp only [fnW] at hcf
     have hb1 : i + 1 <= 140737488355328 := by omega
     have hb2 : (i + 1) * 64 <= 140737488355328 := by omega
     simp +decide only [e, h', hx, fnC, Int.natCast_nonneg, vB, vI, zb, za, hpin, go_sem, reduceAdd, reduceMul]
     refine Tri.ent ?_ (Ent.frb hfull 5)
     refine Tri.fork zf (.one 0 true (.one 2 true (.two 1 (.one 3 false (.one 4 false (.one 5 false (.one 6 false (.one 7 false .done))))) 3 (.two 1 (.one 4 false (.one 5 false (.one 6 false (.one 7 false .done)))) 4 (.one 1 false (.one 5 false (.one 6 false (.one 7 false .done)))))))) zV (by kernel_rfl) (fun C2 hC2 => ?_)
     have hp2 := zY hC2 hpin
     simp +decide only [fnC, zb, za, hp2, hpin, go_sem, reduceAdd, reduceMul]
     have htl1 := zbH (l := p.fns) (i := i + 1) h'
     refine ⟨zd hcf hp2 ?_, zd hcf hp2 ?_⟩
     · simp +decide only [hb1, hb2, htl, htl1, hsn, fnC, zb, za, hp2, hpin, go_sem, reduceAdd, reduceMul]
       refine ⟨i + 1, h', by omega, Ent.weak ?_ ?_ ?_ ?_⟩
       all_goals simp +decide [subT, subB, zk, zj, zl, St.get, look, vI, vB, vS, cI, cS, cB, zg, za, roI, hsn, w64s (n := p.fns.length) h' (by omega)]
     · simp +decide only [hb1, hb2, htl, htl1, hsn, fnC, zb, za, hp2, hpin, go_sem, reduceAdd, reduceMul]
       refine ⟨?_, ?_⟩ <;> refine ⟨i + 1, h', by omega, Ent.weak ?_ ?_ ?_ ?_⟩
       all_goals simp +decide [subT, subB, zk, zj, zl, St.get, look, vI, vB, vS, cI, cS, cB, zg, za, roI, hsn, w64s (n := p.fns.length) h' (by omega)]
   · have hil : i = p.fns.length := by omega
     subst hil
     have e : ((p.fns.length : Int) < (p.fns.length : Int)) = False := by simp
     simp +decide only [e, vB, vI, zb, za, hpin, go_sem, reduceAdd, reduceMul]
     refine ze zf _ ?_
     simp +decide only [zb, za, hpin, go_sem, reduceAdd, reduceMul]
theorem zfY (p : ProgramD) (hf : p.fns.length <= 1048576) (hn : p.nodes.length <= 1048576) (hk : ∀ x ∈ p.nodes, x.kids.length <= 1048576) (hpl : ∀ f ∈ p.fns, f.params.length <= 1048576) :
   zu Tryz.prog 53 [.ro (zb p)] (fun rs st => rs = [(true, za false p)]) := by
 refine zm (fn := Tryz.f53) (c := Tryz.f53.body.getD .skip) (res := [.ce 2 36]) (n := 34) zf (by kernel_rfl) (by rfl) (by kernel_rfl) (by rfl) (by rfl) (by simp [zp]) (fun uf ub C hpin hpin2 hfull => ?_)
 simp only [Tryz.f53, Option.getD_some]
 refine Tri.step zf ?_
 simp +decide only [zb, za, hpin, go_sem, reduceAdd, reduceMul]
 refine Tri.ent ?_ (Ent.frb hfull 1)
 refine Tri.step zf ?_
 simp +decide only [zb, za, hpin, go_sem, reduceAdd, reduceMul]
 refine zd (zcx p.nodes hn hk) hpin ?_
 simp +decide only [zb, za, hpin, go_sem, reduceAdd, reduceMul]
 refine Tri.ent ?_ (Ent.nilr 3 1 104)
 refine Tri.step zf ?_
 simp +decide only [zb, za, hpin, go_sem, reduceAdd, reduceMul]
 refine Tri.loop (ι := Nat) (fun i => i <= p.fns.length) (fun i => ⟨34, [(1, .ip (za true p) 0), (2, .bp 2 0), (3, .bp 3 0), (4, vI i)], [(2, .box [.sc (.slice none 0 0), .sc (.slice none 0 0)]), (3, .box [.row false 83 (rows (zg false) p.nodes), .row false 104 (rows (fnC false) (p.fns.take i))])]⟩) (fun i => p.fns.length - i) 0 (by simp) ?_ ?_
 · refine Ent.weak ?_ ?_ ?_ ?_ <;> simp +decide [subT, subB, zk, zj, zl, St.get, look, vI, vB, vS, cI, cS, cB, zg, za, roI, rows, St.nilr, St.swap]
 · rintro i hi
   refine ze zf _ ?_
   have htl := zbH hi
   by_cases h' : i < p.fns.length
   · have e : ((i : Int) < (p.fns.length : Int)) = True := by simp [h']
     have hx : (rows (fnC true) p.fns).getD i [] = fnC true p.fns[i] := zh _ _ h'
     have hkx := hpl p.fns[i] (List.getElem_mem h')
     have hsn := zmx (p.fns.take i) p.fns[i]
     rw [<- zfC h'] at hsn
     generalize p.fns[i] = f at hx hkx hsn
     have hfr := zau f.params
     have htf := zdt f.params
     have htl1 := zbH (l := p.fns) (i := i + 1) h'
     have hb1 : i + 1 <= 140737488355328 := by omega
     have hb2 : (i + 1) * 64 <= 140737488355328 := by omega
     have hb3 : f.params.length <= 140737488355328 := by omega
     have hb4 : f.params.length * 24 <= 140737488355328 := by omega
     rw [<- htf] at hsn
     simp +decide only [e, h', hx, hfr, hb1, hb2, hb3, hb4, htl, htl1, hsn, fnC, Int.natCast_nonneg, vB, vI, zb, za, hpin, go_sem, reduceAdd, reduceMul]
     refine ⟨i + 1, h', by omega, Ent.weak ?_ ?_ ?_ ?_⟩
     all_goals simp +decide [subT, subB, zk, zj, zl, St.get, look, vI, vB, vS, cI, cS, cB, zg, za, roI, hsn, w64s (n := p.fns.length) h' (by omega)]
   · have hil : i = p.fns.length := by omega
     subst hil
     have e : ((p.fns.length : Int) < (p.fns.length : Int)) = False := by simp
     simp +decide only [e, vB, vI, zb, za, hpin, go_sem, reduceAdd, reduceMul]
     refine ze zf _ ?_
     simp +decide only [zb, za, hpin, go_sem, reduceAdd, reduceMul]
theorem zbR (x : ProgramD) (k : Int) (h0 : 0 <= k) (h1 : k + (sumN yz x.nodes : Nat) + (sumN fnN x.fns : Nat) < 4611686018427387904) :
   zu Tryz.prog 25 [.ro (zb ⟨yE k x.nodes, fnML (k + (sumN yz x.nodes : Nat)) x.fns⟩), .ro (.sc (.int .i64 k))] (fun rs st => rs = [(false, [cI ((k + (sumN yz x.nodes : Nat)) + (sumN fnN x.fns : Nat))])]) := by
 have n0 : ((k + (sumN yz x.nodes : Nat) : Int) < 0) = False := by simp; omega
 have n1 : (((k + (sumN yz x.nodes : Nat)) + (sumN fnN x.fns : Nat) : Int) < 0) = False := by simp; omega
 refine zo (fn := Tryz.f25) (c := Tryz.f25.body.getD .skip) (res := [.tm 4]) (n := 18) zf (by kernel_rfl) (by rfl) (by kernel_rfl) (by rfl) (by rfl) (by simp [zp]) (fun C hpin hfull => ?_)
 simp +decide only [Tryz.f25, zb, zb, za, hpin, go_sem, reduceAdd, reduceMul]
 refine zd (zdW x.nodes k (by omega) (by omega)) hpin ?_
 simp +decide only [n0, zb, zb, za, hpin, go_sem, reduceAdd, reduceMul]
 refine zd (zgh x.fns (k + (sumN yz x.nodes : Nat)) (by omega) (by omega)) hpin ?_
 simp +decide only [n1, zb, zb, za, hpin, go_sem, reduceAdd, reduceMul]
theorem zcE {α : Type} {f : α -> Nat} {c : Nat} : ∀ l : List α, (∀ x ∈ l, f x <= c) -> sumN f l <= c * l.length
 | [], _ => by simp [sumN]
 | a :: r, h => by
   have h1 := zcE r (fun x hx => h x (List.mem_cons_of_mem _ hx))
   have h2 := h a (List.mem_cons_self ..)
   simp only [sumN, List.map_cons, List.sum_cons] at h1 |-
   rw [List.length_cons, Nat.mul_add]
   omega
theorem zmc {nodes : List NodeD} (hD : Deep nodes) : ∀ x ∈ nodes, x.name.size <= 8 := fun x hx => by
 obtain ⟨i, hi, rfl⟩ := List.getElem_of_mem hx
 have hb := Zn nodes i (hD.deep i hi)
 simp only [ZC, Bool.and_eq_true, Xc] at hb
 obtain ⟨_, _, _, _, hs, _⟩ := hb
 rw [zF hi] at hs
 unfold Yi at hs
 split at hs
 · unfold Yx at hs
   have := zx (Bool.and_eq_true_iff.1 hs).1
   omega
 · rw [of_decide_eq_true hs]; decide
theorem znN {p : ProgramD} {f : FnD} (h : YV p f = true) : f.name.size <= 8 /\ f.params.length <= 3 /\ ∀ x ∈ f.params, x.name.size <= 8 := by
 simp only [YV, Bool.and_eq_true, List.all_eq_true, Zy, decide_eq_true_eq] at h
 obtain ⟨h1, h2, _, h3, _⟩ := h
 unfold Yx at h1
 have e1 := zx (Bool.and_eq_true_iff.1 h1).1
 refine ⟨by omega, by omega, fun x hx => ?_⟩
 have h4 := (h3 x hx).1
 unfold Yx at h4
 have e2 := zx (Bool.and_eq_true_iff.1 h4).1
 omega
theorem zpB {p : ProgramD} (h0 : p.nodes.length <= 300) (h1 : p.fns.length <= 8) (h2 : ∀ x ∈ p.nodes, x.name.size <= 8 /\ x.kids.length <= 12) (h3 : ∀ f ∈ p.fns, f.name.size <= 8 /\ f.params.length <= 3 /\ ∀ x ∈ f.params, x.name.size <= 8) : zE p <= 100000 := by
 have e1 := zcE (f := zB) (c := 20) p.nodes (fun x hx => by
   have := h2 x hx
   unfold zB; omega)
 have e2 := zcE (f := yb) (c := 100) p.fns (fun f hf => by
   obtain ⟨g1, g2, g3⟩ := h3 f hf
   have e3 := zcE (f := zH) (c := 8) f.params (fun x hx => g3 x hx)
   unfold yb; omega)
 unfold zE
 omega
theorem zkx {p : ProgramD} (h : Right p) : zE p <= 100000 :=
 zpB h.few h.fns (fun x hx => ⟨zmc h.deep x hx, h.deep.few x hx⟩) (fun f hf => by
   obtain ⟨i, hi, rfl⟩ := List.getElem_of_mem hf
   exact znN (h.fn i hi))
end Go.Proofs.YtjjigphfjclofaaGreatDoor.AW
