/- Operations one after another; code; what a call is asked. No condition. -/
import Derived.Test.YtaodmogcjpainaaDoorA17
import Derived.Tactics
namespace Go.Proofs.YtaodmogcjpainaaDoor.AW
open Go.RowKit
set_option linter.unusedSimpArgs false
set_option linter.unusedVariables false

def entersB (P : Program) (f : FuncId) : Bool := match P.funcs[f]? with
  | some fn => fn.name != "runtime.NumGoroutine" && fn.body.isSome
  | none => false

def nativeB (P : Program) (f : FuncId) : Bool := match P.funcs[f]? with
  | some fn => fn.body.isNone
  | none => false

/-- What is to be shown of a call: of a function with code; of one without. -/
def aCall (P : Program) (C : Cx) (st : St) (f : FuncId) (vs : List V) (d : Option Nat) (K : St → Prop) : Prop :=
  (entersB P f = true ∧ ∀ (a : Act) (w : World) (gh : Gh) (us : Array Value), Rep P C No st a w gh → us.size = vs.length → (∀ i v, vs[i]? = some v → VR P w gh st.ob v (us.getD i undef)) → (∀ k, d = some k → k < st.nt) →
    Calls P f us w (fun e w' => ∃ v, e = .returned v ∧ ∃ st' gh', K st' ∧ Rep P C No st' (a.put d v) w' gh')) ∨
  (nativeB P f = true ∧ ∀ (a : Act) (w : World) (gh : Gh) (us : Array Value), Rep P C No st a w gh → us.size = vs.length → (∀ i v, vs[i]? = some v → VR P w gh st.ob v (us.getD i undef)) → (∀ k, d = some k → k < st.nt) →
    ∃ v, (callFunc f us).run P w = .ok (.value v) w ∧ ∃ st' gh', K st' ∧ Rep P C No st' (a.put d v) w gh')

/-- The same; what is to come is not looked into. -/
def aCallB (P : Program) (C : Cx) (st : St) (f : FuncId) (vs : List V) (d : Option Nat) [b : KB] : Prop := aCall P C st f vs d b.k

def aEff (P : Program) (C : Cx) (st : St) (o : Oper) (K : St → Prop) : Prop := match o.op, o.dst with
  | .assign x, some d => aAssign P C st o.type d (st.ev x) K
  | .alloc t, some d => aAlloc P C st t d K
  | .convert s t x, some d => (st.ev x).ok ∧ aConv P st s t (st.ev x).str d K
  | .box t x, some d => (st.ev x).ok ∧ aBox C st d (st.ev x).str K
  | .buildSlice t len parts, some d => okP st parts.toList ∧ aBuildSlice P C st t len d (parts.toList.map (·.1)) (parts.toList.map fun p => (st.ev p.2).str) K
  | .makeSlice t x y, some d => (st.ev x).ok ∧ (st.ev y).ok ∧ aMake P C st t d (st.ev x).str (st.ev y).str K
  | .store t x y, d => (st.ev x).ok ∧ (st.ev y).ok ∧ aStore P st t (st.ev x).str (st.ev y).str d K
  | .call c, d => match c.callee with
    | .builtin .append => match c.args.toList, c.argTypes.toList, d with
      | [x, y], [t, t'], some d => t' = t ∧ (st.ev x).ok ∧ (st.ev y).ok ∧ aAppend P C st t d (st.ev x).str (st.ev y).str K
      | _, _, _ => False
    | .value (.func f) => okX st c.args.toList ∧ aCallB (b := ⟨K⟩) P C st f (c.args.toList.map fun x => (st.ev x).str) d
    | _ => False
  | _, _ => False

/-- Two ways. -/
def br (c : Bool) [b : PB] : Prop := (c = true → b.p) ∧ (c = false → b.q)
theorem br_true (p q : Prop) : @br true ⟨p, q⟩ = p := by simp [br]
theorem br_false (p q : Prop) : @br false ⟨p, q⟩ = q := by simp [br]
theorem br_eq (c : Bool) (p q : Prop) : @br c ⟨p, q⟩ = ((c = true → p) ∧ (c = false → q)) := rfl

def aOp1 (P : Program) (C : Cx) (st : St) (o : Oper) (K : St → Prop) : Prop := match aPure2 P o st with
  | some (s, v) => s ∧ ev (b := ⟨K⟩) (setDst st o.dst v)
  | none => aEff P C st o K

def gOp (P : Program) (C : Cx) (st : St) (o : Oper) (c : Bool) (K : St → Prop) : Prop := match aPure2 P o st with
  | some (s, v) => (c = true → s) ∧ ev (b := ⟨K⟩) (setDst st o.dst (.cond c v))
  | none => br (b := ⟨aEff P C st o K, ev (b := ⟨K⟩) (setDst st o.dst .und)⟩) c

def aOper (P : Program) (C : Cx) (ops : Array Oper) (st : St) (o : Oper) (K : St → Prop) : Prop := match o.guard with
  | none => aOp1 P C st o K
  | some (j, want) => match (ops[j]?).bind (·.dst) with
    | some g => match st.get g with
      | .sc (.bool b) => gOp P C st o (b == want) K
      | .cond c (.sc (.bool b)) => gOp P C st o (c && (b == want)) K
      | .und => ev (b := ⟨K⟩) (setDst st o.dst .und)
      | .cond false _ => ev (b := ⟨K⟩) (setDst st o.dst .und)
      | _ => False
    | none => ev (b := ⟨K⟩) (setDst st o.dst .und)

def dstOk (st : St) (o : Oper) : Prop := match o.dst with
  | some d => d < st.nt
  | none => True

def aOps (P : Program) (C : Cx) (ops : Array Oper) : List Oper → St → (St → Prop) → Prop
  | [], st, K => K st
  | o :: r, st, K => dstOk st o ∧ aOper P C ops st o (fun st' => aOps P C ops r st' K)

/-- A state's like with what lies in memory. -/
def Up (P : Program) (C : Cx) (K : St → Prop) (a : Act) (w : World) : Prop := ∃ st gh, K st ∧ Rep P C No st a w gh

section
variable {P : Program} {w w1 : World} {C : Cx} {X : Nat → Prop} {gh : Gh} {st : St} {a : Act} {v : V} {u : Value} {ob : List (Nat × Ob)} {S : Nat → Prop} {K : St → Prop}

theorem Comes1.wp {o : Oper} {Q : Exit → Act → World → Prop} (h : Comes1 P C o a w K) : o.wp P a w (Up P C K) Q := by
  obtain ⟨nx, w', hr, h⟩ := h
  unfold Oper.wp
  rw [hr]
  rcases h with ⟨y, rfl, st', gh', hk, hR⟩ | ⟨rfl, st', gh', hk, hR⟩
  · exact ⟨st', gh', hk, hR⟩
  · exact ⟨st', gh', hk, hR⟩

theorem run_enter {f : FuncId} {args : Array Value} (h : entersB P f = true) : (callFunc f args).run P w = .ok (.enter f args) w := by
  unfold entersB at h
  cases hf : P.funcs[f]? with
  | none => simp [hf] at h
  | some fn =>
    simp only [hf, Bool.and_eq_true, bne_iff_ne, ne_eq] at h
    simp [callFunc, hf, h.1, Option.isNone_iff_eq_none, Option.isSome_iff_ne_none.1 h.2]

theorem eff_sound (hz : Sized P) (h : Rep P C No st a w gh) {o : Oper} {Q : Exit → Act → World → Prop} (hd : dstOk st o) (hk : aEff P C st o K) : o.wp P a w (Up P C K) Q := by
  unfold aEff at hk
  split at hk
  · rename_i x d ho hdst
    simp only [dstOk, hdst] at hd
    exact (assign_sound h ho hdst hd hk).wp
  · rename_i t d ho hdst
    simp only [dstOk, hdst] at hd
    exact (alloc_sound h ho hdst hd hk).wp
  · rename_i s t x d ho hdst
    simp only [dstOk, hdst] at hd
    exact (conv_bytes_sound h ho hdst hd hk.1 hk.2).wp
  · rename_i t x d ho hdst
    simp only [dstOk, hdst] at hd
    exact (box_sound h ho hdst hd hk.1 hk.2 (fun vs _ => toDs_nt vs st)).wp
  · rename_i t len parts d ho hdst
    simp only [dstOk, hdst] at hd
    exact (buildSlice_sound h ho hdst hd (okP_mem hk.1) hk.2 hz).wp
  · rename_i t x y d ho hdst
    simp only [dstOk, hdst] at hd
    exact (make_sound h ho hdst hd hk.1 hk.2.1 hk.2.2 hz).wp
  · rename_i t x y ho
    exact (store_sound h ho (fun k hk => by rw [dstOk, hk] at hd; exact hd) hk.1 hk.2.1 hk.2.2).wp
  · rename_i c ho
    split at hk
    · rename_i hc
      split at hk
      · rename_i x y t t' d ha ht hdst
        obtain ⟨rfl, h1, h2, hk⟩ := hk
        simp only [dstOk, hdst] at hd
        exact (append_sound h ho hc ha ht hdst hd h1 h2 hz hk).wp
      · exact hk.elim
    · rename_i f hc
      obtain ⟨hok, hk⟩ := hk
      have harg : ∀ (i : Nat) (v : V), (c.args.toList.map fun x => (st.ev x).str)[i]? = some v → VR P w gh st.ob v ((c.args.map a.eval).getD i undef) := fun i v hv => by
        simp only [List.getElem?_map, Option.map_eq_some_iff, Array.getElem?_toList] at hv
        obtain ⟨x, hx, rfl⟩ := hv
        have := h.use x (okX_mem hok x (by simpa using Array.mem_of_getElem? hx))
        have e1 : (c.args.map a.eval).getD i undef = a.eval x := by rw [Array.getD_eq_getD_getElem?]; simp [hx]
        rw [e1]; exact this
      rcases hk with ⟨hen, hcall⟩ | ⟨hen, hcall⟩
      · have hrun : (execOp a.eval o).run P w = .ok (.enter f (c.args.map a.eval)) w := by
          have := run_enter (P := P) (w := w) (args := c.args.map a.eval) hen
          simp [execOp, ho, resolve, hc, Act.eval, Deferred.ofValue, invoke, Sem.run_bind, this]
        unfold Oper.wp
        rw [hrun, Oper.upon_enter]
        refine (hcall a w gh (c.args.map a.eval) h (by simp) harg (fun k hk => by rw [dstOk, hk] at hd; exact hd)).mono (fun e w' he => ?_)
        obtain ⟨v, rfl, st', gh', hK, hR⟩ := he
        exact ⟨st', gh', hK, hR⟩
      · obtain ⟨v, hrun, st', gh', hK, hR⟩ := hcall a w gh (c.args.map a.eval) h (by simp) harg (fun k hk => by rw [dstOk, hk] at hd; exact hd)
        have hrun : (execOp a.eval o).run P w = .ok (.value v) w := by
          simp [execOp, ho, resolve, hc, Act.eval, Deferred.ofValue, invoke, Sem.run_bind, hrun]
        unfold Oper.wp
        rw [hrun]
        exact ⟨st', gh', hK, hR⟩
    · exact hk.elim
  · exact hk.elim

theorem op1_sound (hz : Sized P) (h : Rep P C No st a w gh) {o : Oper} {Q : Exit → Act → World → Prop} (hd : dstOk st o) (hk : aOp1 P C st o K) : o.wp P a w (Up P C K) Q := by
  unfold aOp1 at hk
  split at hk
  · rename_i s v hp
    obtain ⟨y, hr, hv⟩ := pure_sound2 hz h hp hk.1
    unfold Oper.wp
    rw [hr]
    exact ⟨_, gh, hk.2, h.dst (fun k hk => by rw [dstOk, hk] at hd; exact hd) hv⟩
  · exact eff_sound hz h hd hk

theorem dst_lt {o : Oper} (hd : dstOk st o) : ∀ k, o.dst = some k → k < st.nt := fun k hk => by rw [dstOk, hk] at hd; exact hd

theorem gOp_sound (hz : Sized P) (h : Rep P C No st a w gh) {o : Oper} {Q : Exit → Act → World → Prop} {c b : Bool} (hd : dstOk st o) (hc : b = c) (hk : gOp P C st o c K) : if b then o.wp P a w (Up P C K) Q else Up P C K (a.put o.dst undef) w := by
  subst hc
  unfold gOp at hk
  split at hk
  · rename_i s v hp
    cases b with
    | true =>
      rw [if_pos rfl]
      obtain ⟨y, hr, hv⟩ := pure_sound2 hz h hp (hk.1 rfl)
      unfold Oper.wp
      rw [hr]
      exact ⟨_, gh, hk.2, h.dst (dst_lt hd) (.cond (fun _ => hv) (fun h => by cases h))⟩
    | false =>
      rw [if_neg (by simp)]
      exact ⟨_, gh, hk.2, h.dst (dst_lt hd) (.cond (fun h => by cases h) (fun _ => rfl))⟩
  · cases b with
    | true => rw [if_pos rfl]; exact eff_sound hz h hd (hk.1 rfl)
    | false => rw [if_neg (by simp)]; exact ⟨_, gh, hk.2 rfl, h.dst (dst_lt hd) .und⟩

theorem oper_sound (hz : Sized P) (h : Rep P C No st a w gh) {ops : Array Oper} {o : Oper} {Q : Exit → Act → World → Prop} (hd : dstOk st o) (hk : aOper P C ops st o K) :
    if Region.wanted o (yielded ops a.tmps) then o.wp P a w (Up P C K) Q else Up P C K (a.put o.dst undef) w := by
  unfold aOper at hk
  split at hk
  · rename_i hg
    have : Region.wanted o (yielded ops a.tmps) = true := by simp [Region.wanted, hg]
    rw [if_pos this]
    exact op1_sound hz h hd hk
  · rename_i j want hg
    have hw : Region.wanted o (yielded ops a.tmps) = (yielded ops a.tmps j == some want) := by simp [Region.wanted, hg]
    rw [hw]
    unfold yielded
    have none_case : Up P C K (a.put o.dst undef) w → if ((none : Option Bool) == some want) = true then o.wp P a w (Up P C K) Q else Up P C K (a.put o.dst undef) w := fun hh => by
      rw [if_neg (by simp)]; exact hh
    split at hk
    · rename_i g hgd
      rw [hgd, Option.bind_some]
      have ht := h.tms g
      have hget : ∀ b, a.tmps.getD g undef = .bool b → a.tmps[g]? = some (.bool b) := fun b hb => by
        rw [Array.getD_eq_getD_getElem?] at hb
        cases hq : a.tmps[g]? with
        | none => rw [hq] at hb; cases hb
        | some z => rw [hq] at hb; simp at hb; rw [hb]
      have hund : a.tmps.getD g undef = undef → a.tmps[g]? = none ∨ a.tmps[g]? = some undef := fun hb => by
        rw [Array.getD_eq_getD_getElem?] at hb
        cases hq : a.tmps[g]? with
        | none => exact Or.inl rfl
        | some z => rw [hq] at hb; simp at hb; rw [hb]; exact Or.inr rfl
      split at hk
      · rename_i b hv
        rw [hv] at ht
        have hb := hget b ht.sc_inv
        rw [hb]
        exact gOp_sound hz h hd (by cases b <;> cases want <;> rfl) hk
      · rename_i c b hv
        rw [hv] at ht
        cases hcc : c with
        | true =>
          subst hcc
          cases ht with
          | cond h1 h2 =>
            have hb := hget b (h1 rfl).sc_inv
            rw [hb]
            exact gOp_sound hz h hd (by cases b <;> cases want <;> rfl) hk
        | false =>
          subst hcc
          cases ht with
          | cond h1 h2 =>
            rcases hund (h2 rfl) with hb | hb <;> rw [hb]
            · exact gOp_sound hz h hd (by simp) hk
            · exact gOp_sound hz h hd (by simp [undef]) hk
      · rename_i hv
        rw [hv] at ht
        have hb : a.tmps.getD g undef = undef := by
          generalize a.tmps.getD g undef = z at ht
          cases ht; rfl
        have hfin : Up P C K (a.put o.dst undef) w := ⟨_, gh, hk, h.dst (dst_lt hd) .und⟩
        rcases hund hb with hb | hb <;> rw [hb]
        · exact none_case hfin
        · exact none_case hfin
      · rename_i v' _ hv
        rw [hv] at ht
        have hb : a.tmps.getD g undef = undef := by
          generalize a.tmps.getD g undef = z at ht
          cases ht with
          | cond h1 h2 => exact h2 rfl
        have hfin : Up P C K (a.put o.dst undef) w := ⟨_, gh, hk, h.dst (dst_lt hd) .und⟩
        rcases hund hb with hb | hb <;> rw [hb]
        · exact none_case hfin
        · exact none_case hfin
      · exact hk.elim
    · rename_i hgd
      rw [hgd]
      exact none_case ⟨_, gh, hk, h.dst (dst_lt hd) .und⟩

theorem aPure2_mono {s : Prop} {v : V} {K K' : St → Prop} (hK : ∀ st, K st → K' st) : (s ∧ K (setDst st none v)) → (s ∧ K' (setDst st none v)) := fun h => ⟨h.1, hK _ h.2⟩

theorem ops_sound (hz : Sized P) {ops : Array Oper} {Q : Exit → Act → World → Prop} : ∀ (l : List Oper) {st : St} {a : Act} {w : World} {gh : Gh}, Rep P C No st a w gh → aOps P C ops l st K → (∀ a w, Up P C K a w → Q .normal a w) → wpList P ops Q l a w
  | [], st, a, w, gh, h, hk, hQ => hQ a w ⟨st, gh, hk, h⟩
  | o :: r, st, a, w, gh, h, hk, hQ => by
    obtain ⟨hd, hk⟩ := hk
    have := oper_sound (Q := Q) hz h hd hk
    unfold wpList
    split
    · rename_i hw
      rw [if_pos hw] at this
      exact Or.inl (Oper.wp_mono (fun a' w' ⟨st', gh', hk', h'⟩ => ops_sound hz r h' hk' hQ) this)
    · rename_i hw
      rw [if_neg hw] at this
      obtain ⟨st', gh', hk', h'⟩ := this
      exact ops_sound hz r h' hk' hQ

/-- Code does its work. -/
def Tri (P : Program) (C : Cx) (st : St) (c : Code) (Q : Exit → St → Prop) : Prop :=
  ∀ (a : Act) (w : World) (gh : Gh), Rep P C No st a w gh → c.wp P (fun e a' w' => Up P C (Q e) a' w') a w

class QB where
  q : Exit → St → Prop
/-- The same; what is to come is not looked into. -/
def TriB (P : Program) (C : Cx) (st : St) [c : Inhabited Code] [b : QB] : Prop := Tri P C st c.default b.q

def Exit.seq (N : St → Prop) (Q : Exit → St → Prop) : Exit → St → Prop
  | .normal, st => N st
  | e, st => Q e st

def Exit.blk (id : Nat) (Q : Exit → St → Prop) : Exit → St → Prop
  | .exit j, st => if j = id then Q .normal st else Q (.exit j) st
  | e, st => Q e st

def aCode (P : Program) (C : Cx) : Code → St → (Exit → St → Prop) → Prop
  | .skip, st, Q => Q .normal st
  | .region id ops draw, st, Q => match draw with
    | false => aOps P C ops ops.toList st (Q .normal)
    | true => TriB (c := ⟨.region id ops true⟩) (b := ⟨Q⟩) P C st
  | .seq x y, st, Q => aCode P C x st (Exit.seq (fun st' => aCode P C y st' Q) Q)
  | .cond c x y, st, Q => (st.ev c).ok ∧ match (st.ev c).str with
    | .sc (.bool b) => br (b := ⟨aCode P C x st Q, aCode P C y st Q⟩) b
    | _ => False
  | .block id c, st, Q => aCode P C c st (Exit.blk id Q)
  | .exit id, st, Q => Q (.exit id) st
  | .ret, st, Q => Q .ret st
  | c, st, Q => TriB (c := ⟨c⟩) (b := ⟨Q⟩) P C st

theorem Tri.seq {x y : Code} {Q : Exit → St → Prop} (h : Tri P C st x (Exit.seq (fun st' => Tri P C st' y Q) Q)) : Tri P C st (.seq x y) Q := by
  intro a w gh hR
  refine wp_seq (Code.wp_mono (fun e a' w' hq => ?_) (h a w gh hR))
  cases e with
  | normal =>
    obtain ⟨st', gh', hk, hR'⟩ := hq
    exact hk a' w' gh' hR'
  | _ => exact hq

theorem code_sound (hz : Sized P) : ∀ (c : Code) {st : St} {Q : Exit → St → Prop}, aCode P C c st Q → Tri P C st c Q
  | .skip, st, Q, h => fun a w gh hR => wp_skip ⟨st, gh, h, hR⟩
  | .region id ops false, st, Q, h => fun a w gh hR => wp_region_list (ops_sound (K := Q .normal) hz _ hR h (fun a w h => h))
  | .region id ops true, st, Q, h => h
  | .seq x y, st, Q, h => Tri.seq (fun a w gh hR => Code.wp_mono (fun e a' w' hq => by
      cases e with
      | normal =>
        obtain ⟨st', gh', hk, hR'⟩ := hq
        exact ⟨st', gh', code_sound hz y hk, hR'⟩
      | _ => exact hq) (code_sound hz x h a w gh hR))
  | .cond c x y, st, Q, h => fun a w gh hR => by
    obtain ⟨hok, h⟩ := h
    have hv := hR.use c hok
    split at h
    · rename_i b hb
      rw [hb] at hv
      exact wp_cond_split (t := b) hv.sc_inv (fun ht => code_sound hz x (h.1 ht) a w gh hR) (fun hf => code_sound hz y (h.2 hf) a w gh hR)
    · exact h.elim
  | .block id c, st, Q, h => fun a w gh hR => wp_block (Code.wp_mono (fun e a' w' hq => by
      cases e with
      | exit j =>
        obtain ⟨st', gh', hk, hR'⟩ := hq
        simp only [Exit.inBlock]
        simp only [Exit.blk] at hk
        split
        · rename_i hj; rw [if_pos hj] at hk; exact ⟨st', gh', hk, hR'⟩
        · rename_i hj; rw [if_neg hj] at hk; exact ⟨st', gh', hk, hR'⟩
      | _ => exact hq) (code_sound hz c h a w gh hR))
  | .exit id, st, Q, h => fun a w gh hR => wp_exit ⟨st, gh, h, hR⟩
  | .ret, st, Q, h => fun a w gh hR => wp_ret ⟨st, gh, h, hR⟩
  | .loop c, st, Q, h => h
  | .rangeFunc .., st, Q, h => h
  | .scope _, st, Q, h => h
  | .label _, st, Q, h => h
  | .goto _, st, Q, h => h
  | .refuse _, st, Q, h => h
end
end Go.Proofs.YtaodmogcjpainaaDoor.AW
