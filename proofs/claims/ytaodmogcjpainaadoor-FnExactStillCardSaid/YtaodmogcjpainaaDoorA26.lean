/- Regions whose order is drawn, with calls in them. No condition. -/
import Derived.Test.YtaodmogcjpainaaDoorA25
namespace Go.Proofs.YtaodmogcjpainaaDoor.AW
open Go.RowKit
set_option linter.unusedSimpArgs false
set_option linter.unusedVariables false

/-- An operation whose value stands as long as what is lent stands. -/
def sOp (P : Program) (o : Oper) (st : St) : Option (Prop × V) := match o.op with
  | .assign x => some (True, st.ev x)
  | .load _ x => match (st.ev x).str with
    | .ip _ _ => aPure2 P o st
    | _ => none
  | _ => aPure2 P o st

def sOper (P : Program) (ops : Array Oper) (st : St) (o : Oper) : Option (Prop × V) := match o.guard with
  | none => sOp P o st
  | some (j, want) => match (ops[j]?).bind (·.dst) with
    | some g => match st.get g with
      | .sc (.bool b) => (sOp P o st).map fun x => ((b == want) = true → x.1, .cond (b == want) x.2)
      | .cond c (.sc (.bool b)) => (sOp P o st).map fun x => ((c && (b == want)) = true → x.1, .cond (c && (b == want)) x.2)
      | .und => some (True, .und)
      | .cond false _ => some (True, .und)
      | _ => none
    | none => some (True, .und)

/-- One operation after another, in an order that will do: (number, whether it is taken ahead). -/
def aSched (P : Program) (C : Cx) (ops : Array Oper) : List (Nat × Bool) → St → (St → Prop) → Prop
  | [], st, K => K st
  | (i, t) :: r, st, K => match ops[i]? with
    | some o => dstOk st o ∧ match t with
      | true => (match sOper P ops st o with
        | some (s, v) => s ∧ ev (b := ⟨fun st' => aSched P C ops r st' K⟩) (setDst st o.dst v)
        | none => False)
      | false => aOper P C ops st o (fun st' => aSched P C ops r st' K)
    | none => False

def schedB (ops : Array Oper) : List (Nat × Bool) → Array Bool → Bool
  | [], l => (Region.ready .any ops l).isEmpty
  | (i, t) :: r, l => (match t with
    | true => (Region.ready .any ops l).contains i && Region.free .any ops l i
    | false => Region.ready .any ops l == [i]) && schedB ops r (l.setIfInBounds i true)

def schedOk (ops : Array Oper) (sch : List (Nat × Bool)) : Bool := Region.noSelect ops && schedB ops sch (Array.replicate ops.size false) && sch.length == ops.size

section
variable {P : Program} {w w1 : World} {C : Cx} {X : Nat → Prop} {gh gh1 : Gh} {st : St} {a : Act} {v : V} {u : Value} {ob : List (Nat × Ob)} {S : Nat → Prop} {K : St → Prop}

/-- The same, told from here on. -/
def Cx.here (C : Cx) (w : World) (S : Nat → Prop) : Cx where
  w0 := w
  s0 := S
  may := fun b f => (C.w0.heap.size ≤ b ∨ C.may b f) ∧ ¬ S b
  pin := C.pin
  z := S

theorem Rep.here (h : Rep P C X st a w gh) : Rep P (C.here w gh.S) X st a w gh where
  obs := h.obs
  dis := h.dis
  sS := h.sS
  nS := h.nS
  wrR := fun o e es k ho hk => Or.inr (fun f => ⟨(h.wrR o e es k ho hk).imp id (fun hh => hh f), h.nS o _ k ho hk⟩)
  wrB := fun o cs k ho hk hne => Or.inr (fun f => ⟨(h.wrB o cs k ho hk hne).imp id (fun hh => hh f), h.nS o _ k ho hk⟩)
  wrC := fun o cs j ho hj => Or.inr ⟨h.wrC o cs j ho hj, by
    have := h.obs o _ ho
    cases this with
    | box xs G hb hl h1 hc hx dis nb hF => exact h.nS o _ _ ho ((hF _).2 (Or.inl rfl))⟩
  kept := World.keptBut_refl w _
  pins := h.pins
  tms := h.tms
  nt := h.nt
  dfs := h.dfs
  xl := h.xl
  xS := h.xS
  xF := h.xF
  xW := fun k hk => Or.inr (fun f => ⟨(h.xW k hk).imp id (fun hh => hh f), h.xS k hk⟩)
  s0S := fun k hk => hk
  sZ := fun k hk => hk

theorem Rep.back (h : Rep P C X st a w gh) {X1 : Nat → Prop} {st1 : St} {a1 : Act} (h1 : Rep P (C.here w gh.S) X1 st1 a1 w1 gh1) : Rep P C X1 st1 a1 w1 gh1 := by
  have hw : C.w0.heap.size ≤ w.heap.size := h.kept.size
  have wr : ∀ k, (w.heap.size ≤ k ∨ ∀ f, (C.w0.heap.size ≤ k ∨ C.may k f) ∧ ¬ gh.S k) → C.w0.heap.size ≤ k ∨ ∀ f, C.may k f := fun k hk => by
    by_cases hle : C.w0.heap.size ≤ k
    · exact Or.inl hle
    · exact Or.inr (fun f => (hk.resolve_left (by omega) f).1.resolve_left hle)
  exact {
    obs := h1.obs
    dis := h1.dis
    sS := h1.sS
    nS := h1.nS
    wrR := fun o e es k ho hk => wr k (h1.wrR o e es k ho hk)
    wrB := fun o cs k ho hk hne => wr k (h1.wrB o cs k ho hk hne)
    wrC := fun o cs j ho hj => by
      rcases h1.wrC o cs j ho hj with hh | hh
      · exact Or.inl (Nat.le_trans hw hh)
      · exact hh.1
    kept := keptBut_old (World.keptBut_trans (World.keptBut_mono (fun p hp => Or.inl hp) h.kept) (World.keptBut_mono (fun p ⟨b, f, e, hm⟩ => by
      subst e
      rcases hm.1 with hh | hh
      · exact Or.inr hh
      · exact Or.inl ⟨b, f, rfl, hh⟩) h1.kept))
    pins := h1.pins
    tms := h1.tms
    nt := h1.nt
    dfs := h1.dfs
    xl := h1.xl
    xS := h1.xS
    xF := h1.xF
    xW := fun k hk => wr k (h1.xW k hk)
    s0S := fun k hk => h1.s0S k (h.s0S k hk)
    sZ := fun k hk => h.sZ k (h1.sZ k hk) }

/-- What is lent stands. -/
theorem Rep.lent (h : Rep P C X st a w gh) {X1 : Nat → Prop} {st1 : St} {a1 : Act} (h1 : Rep P (C.here w gh.S) X1 st1 a1 w1 gh1) : ∀ k, gh.S k → w1.heap[k]? = w.heap[k]? := fun k hk =>
  keptBut_heap h1.kept (h.sS k hk) (fun f ⟨b, f', e, hm⟩ => by cases e; exact hm.2 hk) (fun ⟨b, f', e, _⟩ => by cases e)

theorem load_ip {t : TypeId} {ch : List D} {j : Nat} {u : Value} (hp : VR P w gh st.ob (.ip ch j) u) (hs : (loadV P st t (.ip ch j)).1) :
    ∃ y, (∀ w' : World, (∀ k, gh.S k → w'.heap[k]? = w.heap[k]?) → (Instr.loadAt t u).run P w' = .ok y w') ∧ VR P w gh st.ob (loadV P st t (.ip ch j)).2 y := by
  cases hp with
  | @ip _ _ b f U hS h =>
    unfold loadV at hs ⊢
    cases hr : isR P t with
    | none => simp [hr] at hs
    | some r =>
      simp only [hr] at hs ⊢
      obtain ⟨d, hu, hd⟩ := Option.map_eq_some_iff.1 hr
      have cell : ∀ (w' : World), (∀ k, gh.S k → w'.heap[k]? = w.heap[k]?) → ∀ q d, ch[q]? = some d → w'.cell? ⟨b, f + q, none⟩ = some (U q) := fun w' hw q d hq =>
        (World.cell?_of_block (a := ⟨b, f + q, none⟩) (hw b hS)).trans (h q d hq).1
      have val : ∀ q d, ch[q]? = some d → VR P w gh st.ob (cellI d) (U q) := fun q d hq => cellI_VR (h q d hq).2
      cases r with
      | false =>
        simp only [rdD] at hs ⊢
        obtain ⟨x, hx⟩ := Option.isSome_iff_exists.1 hs
        obtain ⟨c, hc, rfl⟩ := Option.map_eq_some_iff.1 hx
        simp only [Nat.add_zero] at hc hx
        refine ⟨U j, fun w' hw => ?_, ?_⟩
        · simp only [Instr.loadAt, Instr.sureAddr, Sem.run_bind, Sem.run_pure, Result.andThen_ok]
          exact run_loadVar_one w' _ t _ d hu hd (cell w' hw j c hc)
        · simp only [Nat.add_zero, hc, Option.map_some, Option.getD_some]; exact val j c hc
      | true =>
        simp only at hs ⊢
        obtain ⟨hs, hpos⟩ := hs
        have step : ∀ q, q < szT P t → ∃ c, ch[j + q]? = some c := fun q hq => by
          have := allSome_get hs q hq
          rw [Nat.zero_add] at this
          obtain ⟨x, hx⟩ := Option.isSome_iff_exists.1 this
          simp only [rdD] at hx
          obtain ⟨c, hc, _⟩ := Option.map_eq_some_iff.1 hx
          exact ⟨c, hc⟩
        let ys := (List.range (szT P t)).map fun q => U (j + q)
        have hl : ys.length = szT P t := by simp [ys]
        have hy : ∀ q, q < szT P t → ys[q]? = some (U (j + q)) := fun q hq => by simp [ys, hq]
        refine ⟨.agg ys.toArray, fun w' hw => run_loadAt_mid w' b (f + j) t ys d (fun q v hv => ?_) hu hd ?_, .agg (by simp [tab_length, hl]) (fun u hu => ?_) (fun i v hv => ?_)⟩
        · have hq : q < szT P t := by rw [← hl]; exact (List.getElem?_eq_some_iff.1 hv).1
          rw [hy q hq] at hv; cases hv
          obtain ⟨c, hc⟩ := step q hq
          rw [Nat.add_assoc]
          exact cell w' hw (j + q) c hc
        · unfold szT at hl hpos
          cases hq : P.info? t with
          | none => simp [hq] at hpos
          | some i => simp [hq] at hl ⊢; omega
        · obtain ⟨q, hq, rfl⟩ := List.getElem_of_mem (by simpa using hu : u ∈ ys)
          obtain ⟨c, hc⟩ := step q (by omega)
          have := (h _ c hc).2.one
          have e := hy q (by omega)
          rw [List.getElem?_eq_getElem hq, Option.some.injEq] at e
          rw [e]; exact this
        · have hi : i < szT P t := by
            have := (List.getElem?_eq_some_iff.1 hv).1
            rwa [tab_length] at this
          rw [tab_get _ _ _ _ hi, Nat.zero_add] at hv
          cases hv
          obtain ⟨c, hc⟩ := step i hi
          have e : (ys.toArray.getD i undef) = U (j + i) := by
            rw [Array.getD_eq_getD_getElem?]; simp [hy i hi]
          rw [e]
          simp only [rdD, hc, Option.map_some, Option.getD_some]
          exact val _ c hc

theorem sOp_sound (hz : Sized P) (h : Rep P C X st a w gh) {o : Oper} {s : Prop} {v : V} (hp : sOp P o st = some (s, v)) (hs : s) :
    ∃ y, (∀ w' : World, (∀ k, gh.S k → w'.heap[k]? = w.heap[k]?) → (execOp a.eval o).run P w' = .ok (.value y) w') ∧ VR P w gh st.ob v y := by
  unfold sOp at hp
  split at hp
  · rename_i x ho
    cases hp
    exact ⟨a.eval x, fun w' _ => by simp [execOp, ho], h.ev x⟩
  · rename_i t x ho
    split at hp
    · rename_i ch j hx
      simp only [aPure2, aPure, ho, Option.some.injEq, Prod.mk.injEq] at hp
      obtain ⟨rfl, rfl⟩ := hp
      obtain ⟨h1, h2⟩ := hs
      have hv := h.use x h1
      rw [hx] at hv h2 ⊢
      obtain ⟨y, hr, hy⟩ := load_ip hv h2
      exact ⟨y, fun w' hw => by simp [execOp, ho, Sem.run_bind, hr w' hw], hy⟩
    · cases hp
  · rename_i hne1 hne2
    obtain ⟨y, hr, hv⟩ := pure_all2 hz h hp hs (fun t x e => hne2 t x e)
    exact ⟨y, fun w' _ => hr w', hv⟩

theorem sOper_sound (hz : Sized P) (h : Rep P C X st a w gh) {ops : Array Oper} {o : Oper} {s : Prop} {v : V} {Sw : World → Prop} (hSw : ∀ w', Sw w' → ∀ k, gh.S k → w'.heap[k]? = w.heap[k]?) (hp : sOper P ops st o = some (s, v)) (hs : s) :
    ∃ y, YieldsIf P ops Sw o y a ∧ VR P w gh st.ob v y := by
  unfold sOper at hp
  split at hp
  · rename_i hg
    obtain ⟨y, hr, hv⟩ := sOp_sound hz h hp hs
    exact ⟨y, Or.inl ⟨by simp [Region.wanted, hg], fun w' hw => hr w' (hSw w' hw)⟩, hv⟩
  · rename_i j want hg
    have hw : Region.wanted o (yielded ops a.tmps) = (yielded ops a.tmps j == some want) := by simp [Region.wanted, hg]
    have guarded : ∀ (b : Bool), (yielded ops a.tmps j == some want) = b → (sOp P o st).map (fun x => ((b = true → x.1, V.cond b x.2) : Prop × V)) = some (s, v) → ∃ y, YieldsIf P ops Sw o y a ∧ VR P w gh st.ob v y := by
      intro b hb hm
      obtain ⟨⟨s', v'⟩, hp', he⟩ := Option.map_eq_some_iff.1 hm
      cases he
      cases b with
      | true =>
        obtain ⟨y, hr, hv⟩ := sOp_sound hz h hp' (hs rfl)
        exact ⟨y, Or.inl ⟨hw.trans hb, fun w' hw => hr w' (hSw w' hw)⟩, .cond (fun _ => hv) (fun h => by cases h)⟩
      | false => exact ⟨undef, Or.inr ⟨hw.trans hb, rfl⟩, .cond (fun h => by cases h) (fun _ => rfl)⟩
    have und : (yielded ops a.tmps j == some want) = false → v = .und → ∃ y, YieldsIf P ops Sw o y a ∧ VR P w gh st.ob v y := fun hb hv => by
      subst hv; exact ⟨undef, Or.inr ⟨hw.trans hb, rfl⟩, .und⟩
    split at hp
    · rename_i g hgd
      have hy : yielded ops a.tmps j = (match a.tmps[g]? with | some (.bool b) => some b | _ => none) := by unfold yielded; rw [hgd]; rfl
      have ht := h.tms g
      have hget : ∀ b, a.tmps.getD g undef = .bool b → a.tmps[g]? = some (.bool b) := fun b hb => by
        rw [Array.getD_eq_getD_getElem?] at hb
        cases hq : a.tmps[g]? with
        | none => rw [hq] at hb; cases hb
        | some z => rw [hq] at hb; simp at hb; rw [hb]
      have hund : a.tmps.getD g undef = undef → a.tmps[g]? = none ∨ a.tmps[g]? = some undef := fun hb => by
        rw [Array.getD_eq_getD_getElem?] at hb
        cases hq : a.tmps[g]? with
        | none => exact Or.inl rfl
        | some z => rw [hq] at hb; simp at hb; rw [hb]; exact Or.inr rfl
      split at hp
      · rename_i b hv
        rw [hv] at ht
        have hb := hget b ht.sc_inv
        exact guarded _ (by rw [hy, hb]; cases b <;> cases want <;> rfl) hp
      · rename_i c b hv
        rw [hv] at ht
        cases hcc : c with
        | true =>
          subst hcc
          cases ht with
          | cond h1 h2 =>
            have hb := hget b (h1 rfl).sc_inv
            exact guarded _ (by rw [hy, hb]; cases b <;> cases want <;> rfl) hp
        | false =>
          subst hcc
          cases ht with
          | cond h1 h2 =>
            rcases hund (h2 rfl) with hb | hb
            · exact guarded _ (by rw [hy, hb]; rfl) hp
            · exact guarded _ (by rw [hy, hb]; rfl) hp
      · rename_i hv
        rw [hv] at ht
        have hb : a.tmps.getD g undef = undef := by
          generalize a.tmps.getD g undef = z at ht
          cases ht; rfl
        cases hp
        rcases hund hb with hb | hb
        · exact und (by rw [hy, hb]; rfl) rfl
        · exact und (by rw [hy, hb]; rfl) rfl
      · rename_i v' _ hv
        rw [hv] at ht
        have hb : a.tmps.getD g undef = undef := by
          generalize a.tmps.getD g undef = z at ht
          cases ht with
          | cond h1 h2 => exact h2 rfl
        cases hp
        rcases hund hb with hb | hb
        · exact und (by rw [hy, hb]; rfl) rfl
        · exact und (by rw [hy, hb]; rfl) rfl
      · cases hp
    · rename_i hgd
      cases hp
      exact und (by unfold yielded; rw [hgd]; rfl) rfl

theorem aSched_sound (hz : Sized P) {ops : Array Oper} {Q : Exit → St → Prop} {w : World} {gh : Gh} {C0 : Cx} {X0 : Nat → Prop} {st0 : St} {a0 : Act} (h0 : Rep P C0 X0 st0 a0 w gh) (hns : Region.noSelect ops = true) :
    ∀ (sch : List (Nat × Bool)) (l : Array Bool) {st : St} {a : Act} {w1 : World} {gh1 : Gh}, Rep P (C0.here w gh.S) No st a w1 gh1 → schedB ops sch l = true → aSched P (C0.here w gh.S) ops sch st (Q .normal) →
    wpAnyH P .any ops (fun e a' w' => match e with | .normal => Up P (C0.here w gh.S) (Q .normal) a' w' | _ => False) (fun w' => ∀ k, gh.S k → w'.heap[k]? = w.heap[k]?) sch.length l a w1
  | [], l, st, a, w1, gh1, h, hb, hk => by
    simp only [schedB, List.isEmpty_iff] at hb
    exact wpAnyH_done hb ⟨st, gh1, hk, h⟩ _
  | (i, t) :: r, l, st, a, w1, gh1, h, hb, hk => by
    unfold aSched at hk
    split at hk
    case h_2 => exact hk.elim
    rename_i o ho
    obtain ⟨hdst, hk⟩ := hk
    simp only [schedB, Bool.and_eq_true] at hb
    obtain ⟨hb1, hb2⟩ := hb
    cases t with
    | true =>
      simp only at hk hb1
      simp only [Bool.and_eq_true] at hb1
      split at hk
      case h_2 => exact hk.elim
      rename_i s v hp
      obtain ⟨y, hy, hv⟩ := sOper_sound (Sw := fun w' => ∀ k, gh.S k → w'.heap[k]? = w.heap[k]?) hz h (fun w' hw k hk => by
        have h1 := h.sZ k hk
        exact (hw k h1).trans (h0.lent h k h1).symm) hp hk.1
      exact wpAnyH_take ho hns hb1.2 hb1.1 (fun c a w hq => hq.elim) hy (h0.lent h) (aSched_sound hz h0 hns r _ (h.dst (dst_lt hdst) hv) hb2 hk.2)
    | false =>
      simp only at hk hb1
      refine wpAnyH_all (rs := [i]) (by simpa using hb1) (by simp) (fun i' hi' => ?_)
      rw [List.mem_singleton] at hi'
      subst hi'
      unfold wpOp
      simp only [ho]
      have hop := oper_sound (Q := fun e a' w' => match e with | .normal => Up P (C0.here w gh.S) (Q .normal) a' w' | _ => False) hz h hdst hk
      have next : ∀ a' w', Up P (C0.here w gh.S) (fun st' => aSched P (C0.here w gh.S) ops r st' (Q .normal)) a' w' → (∀ k, gh.S k → w'.heap[k]? = w.heap[k]?) ∧
          wpAnyH P .any ops (fun e a' w' => match e with | .normal => Up P (C0.here w gh.S) (Q .normal) a' w' | _ => False) (fun w' => ∀ k, gh.S k → w'.heap[k]? = w.heap[k]?) r.length (l.setIfInBounds i' true) a' w' := fun a' w' ⟨st', gh', hk', h'⟩ =>
        ⟨h0.lent h', aSched_sound hz h0 hns r _ h' hb2 hk'⟩
      split
      · rename_i hw
        rw [if_pos hw] at hop
        exact Or.inl (Oper.wp_mono next hop)
      · rename_i hw
        rw [if_neg hw] at hop
        exact next _ _ hop

/-- A region whose order is drawn, with calls in it. -/
theorem Tri.sched (hz : Sized P) {id : Nat} {ops : Array Oper} {Q : Exit → St → Prop} (sch : List (Nat × Bool)) (hm : P.follows .mixedOrders = true) (hb : schedOk ops sch = true) (hk : ∀ C', C'.pin = C.pin → aSched P C' ops sch st (Q .normal)) : Tri P C st (.region id ops true) Q := fun a w gh hR => by
  simp only [schedOk, Bool.and_eq_true, beq_iff_eq] at hb
  obtain ⟨⟨hb1, hb2⟩, hb3⟩ := hb
  have hd := hR.drew
  refine Code.wp_mono (fun e a' w' hq => ?_) (wp_region_held (S := fun w' => ∀ k, gh.S k → w'.heap[k]? = w.drew.heap[k]?) hm ?_ (Q := fun e a' w' => match e with | .normal => Up P (C.here w.drew gh.S) (Q .normal) a' w' | _ => False))
  · cases e with
    | normal =>
      obtain ⟨st', gh', hk', h'⟩ := hq
      exact ⟨st', gh', hk', hd.back h'⟩
    | _ => exact hq.elim
  · have := aSched_sound hz hd hb1 sch (Array.replicate ops.size false) hd.here hb2 (Q := Q) (hk _ rfl)
    rw [hb3] at this
    exact this

/-! ### A struct that is written no more -/
mutual
def frbV (o : Nat) (cs : List D) : V → V
  | .ref o' p n => if o' = o then .dead else .ref o' p n
  | .bp o' j => if o' = o then .ip (shL cs) j else .bp o' j
  | .rp o' p i j => if o' = o then .dead else .rp o' p i j
  | .agg vs => .agg (frbL o cs vs)
  | .tup vs => .tup (frbL o cs vs)
  | .cond c v => .cond c (frbV o cs v)
  | .dead => .dead
  | .und => .und
  | .sc v => .sc v
  | .nil t => .nil t
  | .imm t l => .imm t l
  | .ip ch j => .ip ch j
def frbL (o : Nat) (cs : List D) : List V → List V
  | [] => []
  | v :: r => frbV o cs v :: frbL o cs r
end

def St.frb (st : St) (o : Nat) : St := match look st.ob o with
  | some (.box (c :: cs)) => { st with tm := mapT (frbV o (c :: cs)) st.tm, ob := drop st.ob o }
  | _ => st

theorem frbL_get (o : Nat) (cs : List D) (vs : List V) (i : Nat) : (frbL o cs vs)[i]? = (vs[i]?).map (frbV o cs) := by
  induction vs generalizing i with
  | nil => simp [frbL]
  | cons v r ih => cases i <;> simp [frbL, ih]
theorem frbL_length (o : Nat) (cs : List D) (vs : List V) : (frbL o cs vs).length = vs.length := by
  induction vs with
  | nil => rfl
  | cons v r ih => simp [frbL, ih]

theorem VR.frb (h : VR P w gh ob v u) {o : Nat} {cs : List D} (ho : look ob o = some (.box cs)) (hob : ObR P w gh o (.box cs)) : VR P w (gh.more (gh.F o)) (drop ob o) (frbV o cs v) u := by
  have hne : ∀ o' x, o' ≠ o → look ob o' = some x → look (drop ob o) o' = some x := fun o' x hne hx => by rw [look_drop, if_neg (fun e => hne e.symm)]; exact hx
  induction h with
  | dead => exact .dead
  | und => exact .und
  | sc h => exact .sc h
  | nil => exact .nil
  | imm h => exact .imm (h.mono (fun k hk => Or.inl hk))
  | @ref o' n p x e' es' A c hx hn hle =>
    simp only [frbV]
    by_cases heq : o' = o
    · rw [if_pos heq]; exact .dead
    · rw [if_neg heq]; exact .ref (hne o' x heq hx) (hn.ghc rfl rfl rfl) hle
  | @bp o' j cs' hx =>
    simp only [frbV]
    by_cases heq : o' = o
    · rw [if_pos heq]
      subst heq
      rw [ho] at hx; cases hx
      cases hob with
      | box xs G hb hl h1 hc hxx dis nb hF =>
        refine VR.ip (gh := gh.more (gh.F o')) (fun q => xs.getD q undef) (Or.inr ((hF _).2 (Or.inl rfl))) (fun q d hd => ?_)
        rw [shL_map, List.getElem?_map] at hd
        obtain ⟨d0, hd0, rfl⟩ := Option.map_eq_some_iff.1 hd
        have hq : q < xs.length := by rw [hl]; exact (List.getElem?_eq_some_iff.1 hd0).1
        refine ⟨(hc q hq).trans (getD_of_lt hq), Ro.sh ((hxx q d0 hd0).ro (fun k hk => Or.inr ((hF k).2 (Or.inr ⟨q, d0, hd0, hk⟩))) (fun k hk => Or.inl hk))⟩
    · rw [if_neg heq]; exact .bp (gh := gh.more (gh.F o)) (hne o' _ heq hx)
  | @rp o' i j p x e' es' ad c hx hn =>
    simp only [frbV]
    by_cases heq : o' = o
    · rw [if_pos heq]; exact .dead
    · rw [if_neg heq]; exact .rp (hne o' x heq hx) (hn.ghc rfl rfl rfl)
  | ip U hs h => exact .ip U (Or.inl hs) (fun q d hd => ⟨(h q d hd).1, (h q d hd).2.mono (fun k hk => Or.inl hk)⟩)
  | agg hl h1 h ih =>
    simp only [frbV]
    refine .agg (by rw [frbL_length]; exact hl) h1 (fun i v hv => ?_)
    rw [frbL_get] at hv
    obtain ⟨v0, hv0, rfl⟩ := Option.map_eq_some_iff.1 hv
    exact ih i v0 hv0
  | tup hl h ih =>
    simp only [frbV]
    refine .tup (by rw [frbL_length]; exact hl) (fun i v hv => ?_)
    rw [frbL_get] at hv
    obtain ⟨v0, hv0, rfl⟩ := Option.map_eq_some_iff.1 hv
    exact ih i v0 hv0
  | cond ht hf ih => simp only [frbV]; exact .cond ih hf

theorem Ent.frb (hz : C.full) (o : Nat) : Ent P C st (st.frb o) := fun a w gh h => by
  unfold St.frb
  split
  case h_2 => exact ⟨gh, h⟩
  rename_i c0 cs0 ho
  generalize hcs : c0 :: cs0 = cs at ho
  have hlen : 0 < cs.length := by rw [← hcs]; simp
  have hd : ∀ o' x, look (drop st.ob o) o' = some x → o' ≠ o ∧ look st.ob o' = some x := fun o' x hx => by
    rw [look_drop] at hx
    by_cases e1 : o = o'
    · rw [if_pos e1] at hx; cases hx
    · rw [if_neg e1] at hx; exact ⟨fun e => e1 e.symm, hx⟩
  refine ⟨gh.more (gh.F o), ?_⟩
  exact {
    obs := fun o' b hb => (h.obs o' b (hd o' b hb).2).mono
    dis := fun o1 o2 b1 b2 k h1 h2 => h.dis o1 o2 b1 b2 k (hd _ _ h1).2 (hd _ _ h2).2
    sS := fun k hk => hk.elim (h.sS k) (fun hk => (h.obs o _ ho).lt k hk)
    nS := fun o' b k hb hk hS => hS.elim (h.nS o' b k (hd _ _ hb).2 hk) (fun hk' => (hd _ _ hb).1 (h.dis o' o b _ k (hd _ _ hb).2 ho hk hk'))
    wrR := fun o' e' es' k hb => h.wrR o' e' es' k (hd _ _ hb).2
    wrB := fun o' cs k hb => h.wrB o' cs k (hd _ _ hb).2
    wrC := fun o' cs j hb => h.wrC o' cs j (hd _ _ hb).2
    kept := h.kept
    pins := fun o' x hp hn => h.pins o' x hp (fun e' => by
      cases hq : look (drop st.ob o) o' with
      | none => exact hn hq
      | some y => have := (hd _ _ hq).2; rw [e'] at this; cases this)
    tms := fun t => by
      have : St.get { st with tm := mapT (frbV o cs) st.tm, ob := drop st.ob o } t = frbV o cs (st.get t) := by
        unfold St.get; simp only [look_mapT]
        cases look st.tm t <;> simp [frbV]
      rw [this]
      exact (h.tms t).frb ho (h.obs o _ ho)
    nt := h.nt
    dfs := h.dfs
    xl := h.xl
    xS := fun k hk hS => hS.elim (h.xS k hk) (fun hk' => h.xF o _ k ho hk hk')
    xF := fun o' b k hb => h.xF o' b k (hd _ _ hb).2
    xW := h.xW
    s0S := fun k hk => Or.inl (h.s0S k hk)
    sZ := fun k hk => hk.elim (h.sZ k) (fun hk' => by
      by_cases hb : k = gh.bb o
      · subst hb; exact hz _ ((h.wrC o cs 0 ho hlen).imp id (fun hh => ⟨_, hh⟩))
      · exact hz k ((h.wrB o cs k ho hk' hb).imp id (fun hh => ⟨0, hh 0⟩))) }

/-- A sequence; in between less is known, or something is written no more. -/
theorem Tri.seqE (hz : Sized P) (F : St → St) (hF : ∀ s, Ent P C s (F s)) {x y : Code} {Q : Exit → St → Prop} (h : aCode P C x st (Exit.seq (fun st' => aCode P C y (F st') Q) Q)) : Tri P C st (.seq x y) Q :=
  Tri.seq ((code_sound hz x h).mono fun e s hs => by
    cases e with
    | normal => exact (code_sound hz y hs).ent (hF s)
    | _ => exact hs)

theorem sound_tri {f : FuncId} {fn : Func} {c : Code} {res : List RR} {n : Nat} {ts : (Nat → Value) → List V} {ob0 : List (Nat × Ob)} {post : List RV → St → Prop} (hz : Sized P) (hf : P.funcs[f]? = some fn) (hb : fn.body = some c) (hen : entersB P f = true) (hres : fn.results.toList = res.map RR.var)
    (hn : fn.ntmps = n) (hnt : ∀ uf, (ts uf).length ≤ n) (h : ∀ (uf : Nat → Value) (ub : Nat → Nat × Nat) (C : Cx), (∀ o, isPin o = false → C.pin o = none) → (∀ o, isPin o = true → C.pin o = some (uf o, ub o)) → C.full → Tri P C ⟨n, zipT 0 (ts uf), ob0⟩ c (FinE P res post)) : SoundAt P f ts ob0 post := by
  refine ⟨hen, fun uf ub C w gh us hw hpin hpin2 hfull hus hR => ?_⟩
  have hnt := hnt uf
  have hrep : Rep P C No ⟨n, zipT 0 (ts uf), ob0⟩ { tmps := us ++ Array.replicate (fn.ntmps - us.size) undef, defers := [] } w gh := {
      obs := hR.obs, dis := hR.dis, sS := hR.sS, nS := hR.nS, wrR := hR.wrR, wrB := hR.wrB, wrC := hR.wrC, kept := hR.kept, pins := hR.pins
      tms := fun t => by
        have ht := hR.tms t
        have e1 : St.get ⟨n, zipT 0 (ts uf), ob0⟩ t = St.get ⟨us.size, zipT 0 (ts uf), ob0⟩ t := rfl
        rw [e1]
        by_cases hlt : t < us.size
        · have e2 : (us ++ Array.replicate (fn.ntmps - us.size) undef).getD t undef = us.getD t undef := by
            rw [Array.getD_eq_getD_getElem?, Array.getD_eq_getD_getElem?, Array.getElem?_append_left hlt]
          simp only [e2]; exact ht
        · have e3 : St.get ⟨us.size, zipT 0 (ts uf), ob0⟩ t = .dead := by
            unfold St.get; simp only [look_zipT, Nat.zero_le, if_true, Nat.sub_zero]
            rw [List.getElem?_eq_none (by omega)]; rfl
          rw [e3]; exact .dead
      nt := by simp only [Array.size_append, Array.size_replicate]; omega
      dfs := rfl
      xl := hR.xl, xS := hR.xS, xF := hR.xF, xW := hR.xW, s0S := hR.s0S, sZ := hR.sZ }
  refine calls_of_wp hf hb (Code.wp_mono (fun e a' w' hh => ?_) (h uf ub C hpin hpin2 hfull _ w gh hrep))
  obtain ⟨st', gh', hk, hr⟩ := hh
  cases e with
  | normal => exact fin_sound hres hr hk
  | ret => exact fin_sound hres hr hk
  | _ => exact hk.elim
end
end Go.Proofs.YtaodmogcjpainaaDoor.AW
