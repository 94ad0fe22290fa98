/- Drawn regions in which many things may come first. No condition. -/
import Derived.Test.YtldniggehdpheaaUe
namespace Go.Proofs.Ytldniggehdpheaa.AW
open Go.RowKit
set_option linter.unusedSimpArgs false
set_option linter.unusedVariables false

def aAny (P : Program) (C : Cx) (ops : Array Oper) : List (Nat × Sch) → St → (St → Prop) → Prop
  | [], _, _ => True
  | (i, r) :: t, st, K => aStep P C ops i st (fun st' => aFork P C ops r st' K) ∧ aAny P C ops t st K
def aPre (P : Program) (C : Cx) (ops : Array Oper) (L : List (Nat × Sch)) : List Nat → St → (St → Prop) → Prop
  | [], st, K => aAny P C ops L st K
  | i :: r, st, K => match ops[i]? with
    | some o => dstOk st o ∧ (match sOper P ops st o with
      | some (s, v) => s ∧ ev (b := ⟨fun st' => aPre P C ops L r st' K⟩) (setDst st o.dst v)
      | none => False)
    | none => False
def preB (ops : Array Oper) (L : List (Nat × Sch)) : List Nat → Array Bool → Nat → Bool
  | [], l, n + 1 => Region.ready .any ops l == L.map (·.1) && (!L.isEmpty && L.all (fun p => forkB ops p.2 (l.setIfInBounds p.1 true) n))
  | i :: r, l, n + 1 => ((Region.ready .any ops l).contains i && Region.free .any ops l i) && preB ops L r (l.setIfInBounds i true) n
  | _, _, 0 => false
def manyOk (ops : Array Oper) (pre : List Nat) (L : List (Nat × Sch)) : Bool := Region.noSelect ops && preB ops L pre (Array.replicate ops.size false) ops.size

section
variable {P : Program} {w w1 : World} {C : Cx} {X : Nat → Prop} {gh gh1 : Gh} {st : St} {a : Act} {v : V} {u : Value} {ob : List (Nat × Ob)} {S : Nat → Prop} {K : St → Prop}
theorem aAny_mem {ops : Array Oper} : ∀ {L : List (Nat × Sch)}, aAny P C ops L st K → ∀ p ∈ L, aStep P C ops p.1 st (fun st' => aFork P C ops p.2 st' K)
  | [], _, p, hp => by simp at hp
  | (i, r) :: t, h, p, hp => by
    rcases List.mem_cons.1 hp with rfl | hp
    · exact h.1
    · exact aAny_mem h.2 p hp
theorem aPre_sound (hz : Sized P) {ops : Array Oper} {Q : Exit → St → Prop} {w : World} {gh : Gh} {C0 : Cx} {X0 : Nat → Prop} {st0 : St} {a0 : Act} (h0 : Rep P C0 X0 st0 a0 w gh) (hns : Region.noSelect ops = true) (L : List (Nat × Sch)) :
    ∀ (pre : List Nat) (l : Array Bool) (n : Nat) {st : St} {a : Act} {w1 : World} {gh1 : Gh}, Rep P (C0.here w gh.S) No st a w1 gh1 → preB ops L pre l n = true → aPre P (C0.here w gh.S) ops L pre st (Q .normal) →
    wpAnyH P .any ops (fun e a' w' => match e with | .normal => Up P (C0.here w gh.S) (Q .normal) a' w' | _ => False) (fun w' => ∀ k, gh.S k → w'.heap[k]? = w.heap[k]?) n l a w1
  | [], l, 0, st, a, w1, gh1, h, hb, hk => by simp [preB] at hb
  | _ :: _, l, 0, st, a, w1, gh1, h, hb, hk => by simp [preB] at hb
  | [], l, n + 1, st, a, w1, gh1, h, hb, hk => by
    simp only [preB, Bool.and_eq_true, beq_iff_eq] at hb
    obtain ⟨hb1, hb2, hb3⟩ := hb
    have hne : L.map (·.1) ≠ [] := by
      cases L with
      | nil => simp at hb2
      | cons p t => simp
    refine wpAnyH_all (rs := L.map (·.1)) hb1 hne (fun i' hi' => ?_)
    obtain ⟨p, hp, rfl⟩ := List.mem_map.1 hi'
    have hk := aAny_mem hk p hp
    have hbp := List.all_eq_true.1 hb3 p hp
    unfold aStep at hk
    split at hk
    case h_2 => exact hk.elim
    rename_i o ho
    obtain ⟨hdst, hk⟩ := hk
    unfold wpOp
    simp only [ho]
    have hop := oper_sound (Q := fun e a' w' => match e with | .normal => Up P (C0.here w gh.S) (Q .normal) a' w' | _ => False) hz h hdst hk
    have next : ∀ a' w', Up P (C0.here w gh.S) (fun st' => aFork P (C0.here w gh.S) ops p.2 st' (Q .normal)) a' w' → (∀ k, gh.S k → w'.heap[k]? = w.heap[k]?) ∧
        wpAnyH P .any ops (fun e a' w' => match e with | .normal => Up P (C0.here w gh.S) (Q .normal) a' w' | _ => False) (fun w' => ∀ k, gh.S k → w'.heap[k]? = w.heap[k]?) n (l.setIfInBounds p.1 true) a' w' := fun a' w' ⟨st', gh', hk', h'⟩ =>
      ⟨h0.lent h', aFork_sound hz h0 hns p.2 _ _ h' hbp hk'⟩
    split
    · rename_i hw
      rw [if_pos hw] at hop
      exact Or.inl (Oper.wp_mono next hop)
    · rename_i hw
      rw [if_neg hw] at hop
      exact next _ _ hop
  | i :: r, l, n + 1, st, a, w1, gh1, h, hb, hk => by
    simp only [preB, Bool.and_eq_true] at hb
    obtain ⟨hb1, hb2⟩ := hb
    unfold aPre at hk
    split at hk
    case h_2 => exact hk.elim
    rename_i o ho
    obtain ⟨hdst, hk⟩ := hk
    split at hk
    case h_2 => exact hk.elim
    rename_i s v hp
    obtain ⟨y, hy, hv⟩ := sOper_sound (Sw := fun w' => ∀ k, gh.S k → w'.heap[k]? = w.heap[k]?) hz h (fun w' hw k hk => by
      have h1 := h.sZ k hk
      exact (hw k h1).trans (h0.lent h k h1).symm) hp hk.1
    exact wpAnyH_take ho hns hb1.2 hb1.1 (fun c a w hq => hq.elim) hy (h0.lent h) (aPre_sound hz h0 hns L r _ _ (h.dst (dst_lt hdst) hv) hb2 hk.2)
/-- A region whose order is drawn, where many things may come first, behind some that disturb nothing. -/
theorem Tri.many (hz : Sized P) {id : Nat} {ops : Array Oper} {Q : Exit → St → Prop} (pre : List Nat) (L : List (Nat × Sch)) (hm : P.follows .mixedOrders = true) (hb : manyOk ops pre L = true) (hk : ∀ C', C'.pin = C.pin → aPre P C' ops L pre st (Q .normal)) : Tri P C st (.region id ops true) Q := fun a w gh hR => by
  simp only [manyOk, Bool.and_eq_true] at hb
  obtain ⟨hb1, hb2⟩ := hb
  have hd := hR.drew
  refine Code.wp_mono (fun e a' w' hq => ?_) (wp_region_held (S := fun w' => ∀ k, gh.S k → w'.heap[k]? = w.drew.heap[k]?) hm ?_ (Q := fun e a' w' => match e with | .normal => Up P (C.here w.drew gh.S) (Q .normal) a' w' | _ => False))
  · cases e with
    | normal =>
      obtain ⟨st', gh', hk', h'⟩ := hq
      exact ⟨st', gh', hk', hd.back h'⟩
    | _ => exact hq.elim
  · exact aPre_sound hz hd hb1 L pre (Array.replicate ops.size false) ops.size hd.here hb2 (Q := Q) (hk _ rfl)
end
attribute [go_sem] aAny aPre
end Go.Proofs.Ytldniggehdpheaa.AW
