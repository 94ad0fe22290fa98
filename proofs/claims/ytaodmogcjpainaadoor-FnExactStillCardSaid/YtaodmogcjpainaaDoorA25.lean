/- Regions whose order is drawn, where all that is done is reckoned and read. No condition. -/
import Derived.Test.YtaodmogcjpainaaDoorA24
import Derived.OrdersHeld
namespace Go.Proofs.YtaodmogcjpainaaDoor.AW
open Go.RowKit
set_option linter.unusedSimpArgs false
set_option linter.unusedVariables false

def pOp (P : Program) (o : Oper) (st : St) : Option (Prop × V) := match o.op with
  | .assign x => some (True, st.ev x)
  | _ => aPure2 P o st

def pOper (P : Program) (ops : Array Oper) (st : St) (o : Oper) : Option (Prop × V) := match o.guard with
  | none => pOp P o st
  | some (j, want) => match (ops[j]?).bind (·.dst) with
    | some g => match st.get g with
      | .sc (.bool b) => (pOp P o st).map fun x => ((b == want) = true → x.1, .cond (b == want) x.2)
      | .cond c (.sc (.bool b)) => (pOp P o st).map fun x => ((c && (b == want)) = true → x.1, .cond (c && (b == want)) x.2)
      | .und => some (True, .und)
      | _ => none
    | none => some (True, .und)

def aDraw (P : Program) (ops : Array Oper) : List Oper → St → (St → Prop) → Prop
  | [], st, K => K st
  | o :: r, st, K => dstOk st o ∧ match pOper P ops st o with
    | some (s, v) => s ∧ ev (b := ⟨fun st' => aDraw P ops r st' K⟩) (setDst st o.dst v)
    | none => False

def upTo (n i : Nat) : Array Bool := ((List.range n).map fun j => decide (j < i)).toArray

/-- The operations may come up one after another as they are written. -/
def drawB (ops : Array Oper) : Bool := Region.noSelect ops && ((List.range ops.size).all fun i => Region.free .any ops (upTo ops.size i) i && (Region.ready .any ops (upTo ops.size i)).contains i) && (Region.ready .any ops (upTo ops.size ops.size)).isEmpty

section
variable {P : Program} {w w1 : World} {C : Cx} {X : Nat → Prop} {gh : Gh} {st : St} {a : Act} {v : V} {u : Value} {ob : List (Nat × Ob)} {S : Nat → Prop} {K : St → Prop}

theorem pOp_sound (hz : Sized P) (h : Rep P C X st a w gh) {o : Oper} {s : Prop} {v : V} (hp : pOp P o st = some (s, v)) (hs : s) :
    ∃ y, (execOp a.eval o).run P w = .ok (.value y) w ∧ VR P w gh st.ob v y := by
  unfold pOp at hp
  split at hp
  · rename_i x ho
    cases hp
    exact ⟨a.eval x, by simp [execOp, ho], h.ev x⟩
  · exact pure_sound2 hz h hp hs

theorem pOper_sound (hz : Sized P) (h : Rep P C X st a w gh) {ops : Array Oper} {o : Oper} {s : Prop} {v : V} (hp : pOper P ops st o = some (s, v)) (hs : s) :
    ∃ y, YieldsIf P ops (fun w' => w' = w) o y a ∧ VR P w gh st.ob v y := by
  unfold pOper at hp
  split at hp
  · rename_i hg
    obtain ⟨y, hr, hv⟩ := pOp_sound hz h hp hs
    exact ⟨y, Or.inl ⟨by simp [Region.wanted, hg], fun w' hw => by subst hw; exact hr⟩, hv⟩
  · rename_i j want hg
    have hw : Region.wanted o (yielded ops a.tmps) = (yielded ops a.tmps j == some want) := by simp [Region.wanted, hg]
    have guarded : ∀ (b : Bool), (yielded ops a.tmps j == some want) = b → (pOp P o st).map (fun x => ((b = true → x.1, V.cond b x.2) : Prop × V)) = some (s, v) → ∃ y, YieldsIf P ops (fun w' => w' = w) o y a ∧ VR P w gh st.ob v y := by
      intro b hb hm
      obtain ⟨⟨s', v'⟩, hp', he⟩ := Option.map_eq_some_iff.1 hm
      cases he
      cases b with
      | true =>
        obtain ⟨y, hr, hv⟩ := pOp_sound hz h hp' (hs rfl)
        exact ⟨y, Or.inl ⟨hw.trans hb, fun w' hw => by subst hw; exact hr⟩, .cond (fun _ => hv) (fun h => by cases h)⟩
      | false => exact ⟨undef, Or.inr ⟨hw.trans hb, rfl⟩, .cond (fun h => by cases h) (fun _ => rfl)⟩
    have und : (yielded ops a.tmps j == some want) = false → v = .und → ∃ y, YieldsIf P ops (fun w' => w' = w) o y a ∧ VR P w gh st.ob v y := fun hb hv => by
      subst hv; exact ⟨undef, Or.inr ⟨hw.trans hb, rfl⟩, .und⟩
    split at hp
    · rename_i g hgd
      have hy : yielded ops a.tmps j = (match a.tmps[g]? with | some (.bool b) => some b | _ => none) := by unfold yielded; rw [hgd]; rfl
      have ht := h.tms g
      have hget : ∀ b, a.tmps.getD g undef = .bool b → a.tmps[g]? = some (.bool b) := fun b hb => by
        rw [Array.getD_eq_getD_getElem?] at hb
        cases hq : a.tmps[g]? with
        | none => rw [hq] at hb; cases hb
        | some z => rw [hq] at hb; simp at hb; rw [hb]
      have hund : a.tmps.getD g undef = undef → a.tmps[g]? = none ∨ a.tmps[g]? = some undef := fun hb => by
        rw [Array.getD_eq_getD_getElem?] at hb
        cases hq : a.tmps[g]? with
        | none => exact Or.inl rfl
        | some z => rw [hq] at hb; simp at hb; rw [hb]; exact Or.inr rfl
      split at hp
      · rename_i b hv
        rw [hv] at ht
        have hb := hget b ht.sc_inv
        exact guarded _ (by rw [hy, hb]; cases b <;> cases want <;> rfl) hp
      · rename_i c b hv
        rw [hv] at ht
        cases hcc : c with
        | true =>
          subst hcc
          cases ht with
          | cond h1 h2 =>
            have hb := hget b (h1 rfl).sc_inv
            exact guarded _ (by rw [hy, hb]; cases b <;> cases want <;> rfl) hp
        | false =>
          subst hcc
          cases ht with
          | cond h1 h2 =>
            rcases hund (h2 rfl) with hb | hb
            · exact guarded _ (by rw [hy, hb]; rfl) hp
            · exact guarded _ (by rw [hy, hb]; rfl) hp
      · rename_i hv
        rw [hv] at ht
        have hb : a.tmps.getD g undef = undef := by
          generalize a.tmps.getD g undef = z at ht
          cases ht; rfl
        cases hp
        rcases hund hb with hb | hb
        · exact und (by rw [hy, hb]; rfl) rfl
        · exact und (by rw [hy, hb]; rfl) rfl
      · cases hp
    · rename_i hgd
      cases hp
      exact und (by unfold yielded; rw [hgd]; rfl) rfl

theorem upTo_get (n i j : Nat) : (upTo n i)[j]? = if j < n then some (decide (j < i)) else none := by
  unfold upTo
  simp only [List.getElem?_toArray, List.getElem?_map]
  by_cases h : j < n
  · rw [if_pos h, List.getElem?_range h]; rfl
  · rw [if_neg h, List.getElem?_eq_none (by simp; omega)]; rfl

theorem upTo_succ (n i : Nat) : (upTo n i).setIfInBounds i true = upTo n (i + 1) := by
  apply Array.ext_getElem?
  intro j
  rw [Array.getElem?_setIfInBounds, upTo_get, upTo_get]
  by_cases h : j < n
  · by_cases e : i = j
    · subst e; simp [upTo, h]
    · rw [if_neg e, if_pos h, if_pos h]; congr 1; simp; omega
  · by_cases e : i = j
    · subst e; simp [upTo, h]
    · rw [if_neg e, if_neg h, if_neg h]

theorem upTo_zero (n : Nat) : upTo n 0 = Array.replicate n false := by
  apply Array.ext_getElem?
  intro j
  rw [upTo_get, Array.getElem?_replicate]
  simp

theorem aDraw_sound (hz : Sized P) {ops : Array Oper} {Q : Exit → St → Prop} (hb : drawB ops = true) : ∀ (l : List Oper) (i : Nat) {st : St} {a : Act} {gh : Gh}, Rep P C No st a w gh → l = ops.toList.drop i → i ≤ ops.size → aDraw P ops l st (Q .normal) →
    wpAnyH P .any ops (fun e a' w' => match e with | .normal => Up P C (Q .normal) a' w' | _ => False) (fun w' => w' = w) (ops.size - i) (upTo ops.size i) a w
  | [], i, st, a, gh, h, hl, hi, hk => by
    have hn : i = ops.size := by
      have := congrArg List.length hl
      simp at this; omega
    subst hn
    simp only [drawB, Bool.and_eq_true, List.isEmpty_iff] at hb
    exact wpAnyH_done hb.2 ⟨st, gh, hk, h⟩ _
  | o :: r, i, st, a, gh, h, hl, hi, hk => by
    have hlt : i < ops.size := by
      have := congrArg List.length hl
      simp at this; omega
    have hd : ops.toList.drop i = ops[i] :: ops.toList.drop (i + 1) := by
      rw [List.drop_eq_getElem_cons (by simpa using hlt)]; simp
    rw [hd] at hl
    cases hl
    simp only [drawB, Bool.and_eq_true, List.all_eq_true, List.mem_range] at hb
    obtain ⟨⟨hb1, hb2⟩, _⟩ := hb
    obtain ⟨hb3, hb4⟩ := hb2 i hlt
    obtain ⟨hdst, hk⟩ := hk
    split at hk
    case h_2 => exact hk.elim
    rename_i s v hp
    obtain ⟨y, hy, hv⟩ := pOper_sound hz h hp hk.1
    have e1 : ops.size - i = (ops.size - (i + 1)) + 1 := by omega
    rw [e1]
    refine wpAnyH_take (Array.getElem?_eq_getElem hlt) hb1 hb3 hb4 (fun c a w hq => hq.elim) hy rfl ?_
    rw [upTo_succ]
    exact aDraw_sound hz (by simp only [drawB, Bool.and_eq_true, List.all_eq_true, List.mem_range]; exact ⟨⟨hb1, hb2⟩, ‹_›⟩) _ (i + 1) (h.dst (dst_lt hdst) hv) rfl (by omega) hk.2

/-- A region whose order is drawn. -/
theorem Tri.draw (hz : Sized P) {id : Nat} {ops : Array Oper} {Q : Exit → St → Prop} (hm : P.follows .mixedOrders = true) (hb : drawB ops = true) (hk : aDraw P ops ops.toList st (Q .normal)) : Tri P C st (.region id ops true) Q := fun a w gh hR => by
  refine Code.wp_mono (fun e a' w' hq => ?_) (wp_region_held (S := fun w' => w' = w.drew) hm ?_ (Q := fun e a' w' => match e with | .normal => Up P C (Q .normal) a' w' | _ => False))
  · cases e with
    | normal => exact hq
    | _ => exact hq.elim
  · have := aDraw_sound (C := C) (w := w.drew) (a := a) (Q := Q) hz hb ops.toList 0 hR.drew rfl (Nat.zero_le _) hk
    rw [upTo_zero] at this
    exact this
end
end Go.Proofs.YtaodmogcjpainaaDoor.AW
