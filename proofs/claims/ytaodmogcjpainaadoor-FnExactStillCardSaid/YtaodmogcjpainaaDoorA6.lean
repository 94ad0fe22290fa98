/- An operation that only reckons and reads, whichever it is, comes to what is told of it, and memory stands. No condition. -/
import Derived.Test.YtaodmogcjpainaaDoorA5
namespace Go.Proofs.YtaodmogcjpainaaDoor.AW
open Go.RowKit
set_option linter.unusedSimpArgs false
set_option linter.unusedVariables false
section
variable {P : Program} {w w1 : World} {C : Cx} {X : Nat → Prop} {gh : Gh} {st : St} {a : Act} {v : V} {u : Value} {ob : List (Nat × Ob)}

theorem cellAt_some {es : List (List D)} {i n : Nat} (hi : i < es.length) (hsz : ∀ l ∈ es, l.length = n) (hn : 0 < n) : ∃ d, cellAt es i 0 = some d := by
  have hl := hsz _ (List.getElem_mem hi)
  refine ⟨(es[i])[0], ?_⟩
  unfold cellAt
  rw [List.getElem?_eq_getElem hi, Option.bind_some, List.getElem?_eq_getElem (by omega)]

theorem indexAddr_sound (hz : ∀ e, 0 < szT P e ∨ szT P e = 0) (h : Rep P C X st a w gh) {t : TypeId} {x y : V} {p q : Value} (hx : VR P w gh st.ob x p) (hy : VR P w gh st.ob y q)
    (hs : (indexAddrV P st t x y).1) (hpos : ∀ e, elT P t = some e → 0 < szT P e) :
    ∃ z, (∀ w : World, (Instr.indexAt t p q).run P w = .ok z w) ∧ VR P w gh st.ob (indexAddrV P st t x y).2 z := by
  unfold indexAddrV at hs ⊢
  split at hs
  case h_2 => exact hs.elim
  rename_i k i
  have h2 := hy.sc_inv; subst h2
  cases hx <;> (try simp only at hs ⊢) <;> try exact hs.elim
  case imm e es hr =>
    obtain ⟨he, h0, h1⟩ := hs
    have hu := elT_some he
    have hsp := hpos e he
    cases hr with
    | row U hl hm hsz hA hU =>
      obtain ⟨ad, rfl, hspot, hS, hc⟩ := hA (by omega)
      have hlt : i.toNat < es.length := by omega
      obtain ⟨b, f, s⟩ := ad
      simp only at hspot hS hc
      subst hspot
      refine ⟨_, fun w => run_indexAt w hu b f es.length _ k i h0 h1 hsp, ?_⟩
      have := VR.ip (P := P) (w := w) (gh := gh) (ob := st.ob) (ch := es.getD i.toNat []) (j := 0) (b := b) (f := f + i.toNat * szT P e) (fun q => U i.toNat q) hS (fun q d hd => by
        have hcd : cellAt es i.toNat q = some d := by
          unfold cellAt
          rw [List.getElem?_eq_getElem hlt]
          simpa [List.getD, List.getElem?_eq_getElem hlt] using hd
        exact ⟨by rw [Nat.add_assoc]; exact hc _ _ _ hcd, hU _ _ _ hcd⟩)
      simpa using this
  case ref o n pth x0 e es A c hx0 hn hle =>
    have hsub := hn.sub
    simp only [hx0, Option.bind_some, hsub] at hs ⊢
    obtain ⟨he, h0, h1⟩ := hs
    have hu := elT_some he
    have hsp := hpos e he
    obtain ⟨v', F', hn', how, _⟩ := (h.obs o _ hx0).focus hsub
    obtain ⟨_, rfl⟩ := hn.fn hn'
    cases how with
    | row xs G own hsz h1' hx' dis nb =>
      obtain ⟨g, cap, he', hcc, hm, hcell, _⟩ := ownsRow_cell own (by omega)
      cases he'
      refine ⟨_, fun w => run_indexAt w hu g 0 n _ k i h0 h1 hsp, ?_⟩
      have := VR.rp (P := P) (w := w) (gh := gh) (ob := st.ob) (i := i.toNat) (j := 0) hx0 hn
      simpa using this

/-- The elements of rows have cells. -/
def Sized (P : Program) : Prop := ∀ t e, elT P t = some e → 0 < szT P e

theorem pure_all (hz : Sized P) (h : Rep P C X st a w gh) {o : Oper} {s : Prop} {v : V} (hp : aPure P o st = some (s, v)) (hs : s) (hnl : ∀ t x, o.op ≠ .load t x) :
    ∃ y, (∀ w : World, (execOp a.eval o).run P w = .ok (.value y) w) ∧ VR P w gh st.ob v y := by
  obtain ⟨dst, op, type, pos, after, guard⟩ := o
  cases op <;> simp only [aPure] at hp <;> try cases hp
  case move x => exact ⟨_, fun w => by simp [execOp], (h.ev x).use hs⟩
  case pick c x y =>
    obtain ⟨h1, h2⟩ := hs
    obtain ⟨t, ht, hv⟩ := pick_sound (h.use c h1) (h.ev x) (h.ev y) h2
    exact ⟨_, fun w => by simp [execOp, ht, asBool], hv⟩
  case load t x => exact absurd rfl (hnl t x)
  case nilCheck x =>
    obtain ⟨h1, h2⟩ := hs
    obtain ⟨⟨b, hb⟩, he⟩ := nil_sound (h.use x h1) h2
    refine ⟨a.eval x, fun w => by simp [execOp, hb], ?_⟩
    rw [he]; exact h.use x h1
  case binOp op t x y t2 =>
    obtain ⟨h1, h2, h3⟩ := hs
    obtain ⟨r, hr, hv, ho, hn⟩ := bin_sound (h.use x h1) (h.use y h2) h3
    exact ⟨r, fun w => by simp [execOp, Sem.run_bind, eqGuard_ok ho hn, hr], hv⟩
  case unOp op t x =>
    obtain ⟨h1, h2⟩ := hs
    obtain ⟨r, hr, hv⟩ := un_sound (P := P) (h.use x h1) h2
    exact ⟨r, fun w => by simp [execOp, Sem.run_bind, hr], hv⟩
  case convert s t x =>
    split at hp
    · cases hp
    cases hp
    obtain ⟨h1, h2⟩ := hs
    obtain ⟨r, hr, hv⟩ := conv_sound (P := P) (h.use x h1) h2
    exact ⟨r, fun w => by simp [execOp, Sem.run_bind, hr], hv⟩
  case fieldAddr s x f =>
    obtain ⟨h1, h2⟩ := hs
    obtain ⟨r, hr, hv⟩ := fieldAddr_sound (P := P) (h.use x h1) h2
    exact ⟨r, fun w => by simp [execOp, Sem.run_bind, hr], hv⟩
  case field s x f =>
    obtain ⟨h1, h2⟩ := hs
    obtain ⟨r, hr, hv⟩ := field_sound (P := P) (h.use x h1) h2
    exact ⟨r, fun w => by simp [execOp, Sem.run_bind, hr], hv⟩
  case indexAddr t x y =>
    obtain ⟨h1, h2, h3⟩ := hs
    obtain ⟨r, hr, hv⟩ := indexAddr_sound (fun e => by omega) h (h.use x h1) (h.use y h2) h3 (hz t)
    exact ⟨r, fun w => by simp [execOp, Sem.run_bind, hr], hv⟩
  case index t x y =>
    obtain ⟨h1, h2, h3⟩ := hs
    obtain ⟨r, hr, hv⟩ := index_sound (P := P) (h.use x h1) (h.use y h2) h3
    exact ⟨r, fun w => by simp [execOp, Sem.run_bind, hr], hv⟩
  case extract x i =>
    obtain ⟨h1, h2⟩ := hs
    obtain ⟨r, hr, hv⟩ := extract_sound (P := P) (h.use x h1) h2
    exact ⟨r, fun w => by simp [execOp, Sem.run_bind, hr], hv⟩
  case call c =>
    obtain ⟨callee, args, argTypes⟩ := c
    cases callee <;> simp only at hp <;> try cases hp
    rename_i b
    cases b <;> simp only at hp <;> try cases hp
    case len =>
      split at hp
      · rename_i x t r hx ht
        simp only [Option.some.injEq, Prod.mk.injEq] at hp
        obtain ⟨rfl, rfl⟩ := hp
        obtain ⟨h1, h2⟩ := hs
        have ha : args = #[x] := Array.toList_inj.1 (by simpa using hx)
        have hat : argTypes[0]? = some t := by rw [← Array.getElem?_toList, ht]; rfl
        obtain ⟨y, hr, hv⟩ := len_sound (P := P) (ty := type) (h.use x h1) h2 hat
        exact ⟨y, fun w => by simp [execOp, resolve, invoke, builtin, ha, Sem.run_bind, hr], hv⟩
      · cases hp
    case min =>
      split at hp
      · rename_i x y hx
        simp only [Option.some.injEq, Prod.mk.injEq] at hp
        obtain ⟨rfl, rfl⟩ := hp
        obtain ⟨h1, h2, h3⟩ := hs
        have ha : args = #[x, y] := Array.toList_inj.1 (by simpa using hx)
        obtain ⟨z, hr, hv⟩ := min_sound (P := P) (lo := true) (r := argTypes) (ty := type) (h.use x h1) (h.use y h2) h3
        exact ⟨z, fun w => by simp only [if_true] at hr; simp [execOp, resolve, invoke, builtin, ha, Sem.run_bind, hr], hv⟩
      · cases hp
    case max =>
      split at hp
      · rename_i x y hx
        simp only [Option.some.injEq, Prod.mk.injEq] at hp
        obtain ⟨rfl, rfl⟩ := hp
        obtain ⟨h1, h2, h3⟩ := hs
        have ha : args = #[x, y] := Array.toList_inj.1 (by simpa using hx)
        obtain ⟨z, hr, hv⟩ := min_sound (P := P) (lo := false) (r := argTypes) (ty := type) (h.use x h1) (h.use y h2) h3
        exact ⟨z, fun w => by simp only [Bool.false_eq_true, if_false] at hr; simp [execOp, resolve, invoke, builtin, ha, Sem.run_bind, hr], hv⟩
      · cases hp

theorem pure_sound (hz : Sized P) (h : Rep P C X st a w gh) {o : Oper} {s : Prop} {v : V} (hp : aPure P o st = some (s, v)) (hs : s) :
    ∃ y, (execOp a.eval o).run P w = .ok (.value y) w ∧ VR P w gh st.ob v y := by
  by_cases hl : ∃ t x, o.op = .load t x
  · obtain ⟨t, x, ho⟩ := hl
    simp only [aPure, ho, Option.some.injEq, Prod.mk.injEq] at hp
    obtain ⟨rfl, rfl⟩ := hp
    obtain ⟨h1, h2⟩ := hs
    obtain ⟨y, hr, hv⟩ := load_sound h (h.use x h1) h2
    exact ⟨y, by simp [execOp, ho, Sem.run_bind, hr], hv⟩
  · obtain ⟨y, hr, hv⟩ := pure_all hz h hp hs (fun t x e => hl ⟨t, x, e⟩)
    exact ⟨y, hr w, hv⟩
end
end Go.Proofs.YtaodmogcjpainaaDoor.AW
