/- What is told of an operation that only reckons and reads is so. No condition. -/
import Derived.Test.YtaodmogcjpainaaDoorA4
namespace Go.Proofs.YtaodmogcjpainaaDoor.AW
open Go.RowKit

set_option linter.unusedSimpArgs false
set_option linter.unusedVariables false
section
variable {P : Program} {w w1 : World} {C : Cx} {X : Nat → Prop} {gh : Gh} {st : St} {a : Act} {v : V} {u : Value} {ob : List (Nat × Ob)}

theorem VR.sc_inv {x : Value} (h : VR P w gh ob (.sc x) u) : u = x := by cases h; rfl

theorem nil_sound {x : V} (hv : VR P w gh ob x u) (hs : (nilV x).1) : (∃ b, u = .pointer (some b)) ∧ (nilV x).2 = x := by
  cases hv <;> simp [nilV] at hs ⊢

theorem szT_info {t : TypeId} (h : 0 < szT P t) : ∃ i, P.info? t = some i ∧ i.size = szT P t := by
  unfold szT at h ⊢
  cases hq : P.info? t with
  | none => simp [hq] at h
  | some i => exact ⟨i, rfl, by simp⟩

theorem run_sizeOf {t : TypeId} (h : 0 < szT P t) (w : World) : (sizeOf t).run P w = .ok (szT P t) w := by
  obtain ⟨i, hi, hs⟩ := szT_info h
  simp [sizeOf, typeInfo, hi, hs]

theorem add_mid' (b f q : Nat) : (⟨b, f, none⟩ : Addr).add q = ⟨b, f + q, none⟩ := Addr.add_mid b f q

theorem fieldAddr_sound {x : V} {s f : Nat} (hv : VR P w gh ob x u) (hs : (fieldAddrV P s f x).1) : ∃ y, (∀ w : World, (Instr.fieldAt s u f).run P w = .ok y w) ∧ VR P w gh ob (fieldAddrV P s f x).2 y := by
  unfold fieldAddrV at hs ⊢
  cases hf : fo P s f with
  | none => simp [hf] at hs
  | some off =>
    simp only [hf] at hs ⊢
    unfold fo at hf
    split at hf
    case h_2 => cases hf
    rename_i fs hu
    split at hf
    case h_2 => cases hf
    rename_i fd hfd
    split at hf
    case isFalse => cases hf
    rename_i hpos
    cases hf
    have hne : szT P fd.type ≠ 0 := by omega
    have hrun : ∀ b o (w : World), (Instr.fieldAt s (.pointer (some ⟨b, o, none⟩)) f).run P w = .ok (.pointer (some ⟨b, o + fd.offset, none⟩)) w := by
      intro b o w
      simp [Instr.fieldAt, run_underlying hu, hfd, Instr.sureAddr, fieldPlace, run_sizeOf hpos, hne, add_mid']
    cases hv <;> simp only at hs ⊢ <;> try exact hs.elim
    case bp o j cs hx => exact ⟨_, hrun _ _, by rw [Nat.add_assoc]; exact .bp hx⟩
    case rp o i j p x e es ad c hx hn => exact ⟨_, hrun _ _, by have := VR.rp (i := i) (j := j + fd.offset) hx hn; rwa [← Nat.add_assoc, ← Nat.add_assoc, Nat.add_assoc ad.off] at this⟩
    case ip ch j b g U hs' hU => exact ⟨_, hrun _ _, by rw [Nat.add_assoc]; exact .ip U hs' hU⟩

theorem bool_op {b c : Bool} {t : TypeId} (ht : P.underlying t = some .bool) {op : BinOp} {r : Bool} (hr : boolB op b c = some r) : ∀ w : World, (binOp op t (.bool b) (.bool c)).run P w = .ok (.bool r) w := by
  intro w
  have h := run_equal_bool (P := P) w t b c ht
  cases op <;> simp only [boolB, Option.some.injEq] at hr <;> try cases hr
  · simp only [binOp]; simp [h]
  · simp only [binOp]; simp [h]; cases b <;> cases c <;> rfl

theorem int_op {k k' : IntKind} {x y : Int} {t : TypeId} {op : BinOp} (hs : (binV P op t (.sc (.int k x)) (.sc (.int k' y))).1) :
    ∃ r, (∀ w : World, (binOp op t (.int k x) (.int k' y)).run P w = .ok r w) ∧ (binV P op t (.sc (.int k x)) (.sc (.int k' y))).2 = .sc r ∧ r.oneCell' = true := by
  cases op <;> simp only [binV, isSh, if_true, if_false, Bool.false_eq_true, intV] at hs ⊢ <;> try (exact hs.elim) <;> try (exact hs.2.elim)
  all_goals try (obtain ⟨rfl, hs⟩ := hs)
  all_goals refine ⟨_, fun w => ?_, rfl, rfl⟩
  all_goals first
    | (simp [binOp, Op.intArith]; done)
    | (simp [binOp, Op.intDiv, hs]; done)
    | (simp [binOp, Op.intCmp]; done)
    | (simp [binOp, Op.intBits, bits]; done)
    | (simp only [binOp, Op.shift]; rw [if_neg (by omega)]; rfl)

theorem str_op {x y : ByteArray} {t : TypeId} {op : BinOp} (hs : (strV op x y).1) : ∃ r, (∀ w : World, (binOp op t (.string x) (.string y)).run P w = .ok r w) ∧ (strV op x y).2 = .sc r ∧ r.oneCell' = true := by
  cases op <;> simp only [strV] at hs ⊢ <;> try (exact hs.elim)
  all_goals refine ⟨_, fun w => ?_, rfl, rfl⟩
  all_goals first
    | (simp [binOp, Op.stringOp]; done)
    | (simp only [binOp, Op.stringOp]; rw [if_neg (by simp [IntKind.max, IntKind.signed, IntKind.bits]; omega)]; rfl)

theorem eqGuard_ok {op : BinOp} {t : TypeId} {x y : Operand} {p q : Value} (h : p.oneCell' = true) (hn : p ≠ .nilIface) (w : World) : (eqGuard op t x y p q).run P w = .ok () w := by
  cases p <;> first
    | (exact absurd rfl hn)
    | (simp [Value.oneCell'] at h; done)
    | (cases op <;> rfl)

theorem bin_sound {op : BinOp} {t : TypeId} {x y : V} {p q : Value} (hx : VR P w gh ob x p) (hy : VR P w gh ob y q) (hs : (binV P op t x y).1) :
    ∃ r, (∀ w : World, (binOp op t p q).run P w = .ok r w) ∧ VR P w gh ob (binV P op t x y).2 r ∧ p.oneCell' = true ∧ p ≠ .nilIface := by
  unfold binV at hs ⊢
  split at hs
  · rename_i k a k' b
    have h1 := hx.sc_inv; have h2 := hy.sc_inv; subst h1; subst h2
    obtain ⟨r, h1, h2, h3⟩ := int_op (P := P) (t := t) (op := op) (k := k) (k' := k') (x := a) (y := b) (by simpa only [binV] using hs)
    refine ⟨r, h1, ?_, rfl, by simp⟩
    have h4 : VR P w gh ob (binV P op t (.sc (.int k a)) (.sc (.int k' b))).2 r := by rw [h2]; exact .sc h3
    simpa only [binV] using h4
  · rename_i a b
    have h1 := hx.sc_inv; have h2 := hy.sc_inv; subst h1; subst h2
    obtain ⟨r, h1, h2, h3⟩ := str_op (P := P) (t := t) hs
    refine ⟨r, h1, ?_, rfl, by simp⟩
    simp only [h2]
    exact .sc h3
  · rename_i a b
    have h1 := hx.sc_inv; have h2 := hy.sc_inv; subst h1; subst h2
    split at hs
    · rename_i r hr
      refine ⟨.bool r, bool_op hs hr, ?_, rfl, by simp⟩
      simp only [hr]
      exact .sc rfl
    · exact hs.elim
  · exact hs.elim

theorem un_sound {op : UnOp} {x : V} {p : Value} (hx : VR P w gh ob x p) (hs : (unV op x).1) : ∃ r, (∀ w : World, (Op.unary op p).run P w = .ok r w) ∧ VR P w gh ob (unV op x).2 r := by
  unfold unV at hs ⊢
  split at hs
  · have h1 := hx.sc_inv; subst h1
    exact ⟨_, fun w => by simp [Op.unary], .sc rfl⟩
  · have h1 := hx.sc_inv; subst h1
    exact ⟨_, fun w => by simp [Op.unary, Op.intArith], .sc rfl⟩
  · exact hs.elim

theorem conv_sound {s t : TypeId} {x : V} {p : Value} (hx : VR P w gh ob x p) (hs : (convV P s t x).1) : ∃ r, (∀ w : World, (convert s t p).run P w = .ok r w) ∧ VR P w gh ob (convV P s t x).2 r := by
  unfold convV at hs ⊢
  split at hs
  · rename_i k0 n
    have h1 := hx.sc_inv; subst h1
    split at hs
    · rename_i k hk
      simp only [hk]
      obtain ⟨d, hd⟩ := Option.isSome_iff_exists.1 hs
      exact ⟨_, fun w => by simp [convert, run_underlying hd, run_underlying hk, Conv.intToInt], .sc rfl⟩
    · exact hs.elim
  · rename_i str
    have h1 := hx.sc_inv; subst h1
    split at hs
    · rename_i h2 h3
      simp only [h2, h3]
      exact ⟨_, fun w => by simp [convert, run_underlying h2, run_underlying h3], .sc rfl⟩
    · exact hs.elim
  · exact hs.elim

theorem pick_sound {c x y : V} {q r s : Value} (hc : VR P w gh ob c q) (hx : VR P w gh ob x r) (hy : VR P w gh ob y s) (hs : (pickV c x y).1) :
    ∃ t, q = .bool t ∧ VR P w gh ob (pickV c x y).2 (if t then r else s) := by
  unfold pickV at hs ⊢
  split at hs
  · rename_i t
    have h1 := hc.sc_inv; subst h1
    refine ⟨t, rfl, ?_⟩
    split at hs
    · have h1 := hx.sc_inv; have h2 := hy.sc_inv; subst h1; subst h2
      cases t <;> exact .sc rfl
    · have h1 := hx.sc_inv; subst h1
      cases t
      · cases hy with
        | cond ht hf => have := (ht (hs rfl)).sc_inv; subst this; exact .sc rfl
      · exact .sc rfl
    · have h2 := hy.sc_inv; subst h2
      cases t
      · exact .sc rfl
      · cases hx with
        | cond ht hf => have := (ht (hs rfl)).sc_inv; subst this; exact .sc rfl
    · have h1 := hx.sc_inv; subst h1
      simp only at hs
      subst hs; exact .sc rfl
    · have h2 := hy.sc_inv; subst h2
      simp only at hs
      subst hs; exact .sc rfl
    · exact hs.elim
  · exact hs.elim

theorem elT_some {t e : TypeId} (h : elT P t = some e) : P.underlying t = some (.slice e) := by
  unfold elT at h
  split at h
  · split at h
    · rename_i e' he; cases h; exact he
    · cases h
  · cases h

theorem run_indexAt (w : World) {t e : TypeId} (ht : P.underlying t = some (.slice e)) (b f l c : Nat) (k : IntKind) (i : Int) (h0 : 0 ≤ i) (h1 : i < l) (hz : 0 < szT P e) :
    (Instr.indexAt t (.slice (some ⟨b, f, none⟩) l c) (.int k i)).run P w = .ok (.pointer (some ⟨b, f + i.toNat * szT P e, none⟩)) w := by
  simp [Instr.indexAt, run_underlying ht, asIntOf, h0, h1, run_sizeOf hz, add_mid']

theorem len_sound {t : TypeId} {x : V} {p : Value} {ty : TypeId} {r : Array TypeId} (hx : VR P w gh ob x p) (hs : (lenV P t x).1) (hr : r[0]? = some t) : ∃ y, (∀ w : World, (Builtin.len_ r ty #[p]).run P w = .ok y w) ∧ VR P w gh ob (lenV P t x).2 y := by
  have sl : (elT P t).isSome = true → ∃ e, P.underlying t = some (.slice e) := fun h => by
    obtain ⟨e, he⟩ := Option.isSome_iff_exists.1 h
    exact ⟨e, elT_some he⟩
  unfold lenV at hs ⊢
  cases hx <;> (try simp only at hs ⊢) <;> try exact hs.elim
  case sc h =>
    cases p <;> (try simp only at hs ⊢) <;> try exact hs.elim
    case string => exact ⟨_, fun w => by simp [Builtin.len_, hr, run_underlying hs, goInt], .sc rfl⟩
    case slice =>
      obtain ⟨e, he⟩ := sl hs
      exact ⟨_, fun w => by simp [Builtin.len_, hr, run_underlying he, goInt], .sc rfl⟩
  case nil e0 =>
    obtain ⟨e, he⟩ := sl hs
    exact ⟨_, fun w => by simp [Builtin.len_, hr, run_underlying he, goInt], .sc rfl⟩
  case imm e0 es h =>
    obtain ⟨e, he⟩ := sl hs
    cases h
    exact ⟨_, fun w => by simp [Builtin.len_, hr, run_underlying he, goInt], .sc rfl⟩
  case ref =>
    obtain ⟨e, he⟩ := sl hs
    exact ⟨_, fun w => by simp [Builtin.len_, hr, run_underlying he, goInt], .sc rfl⟩

theorem min_sound {lo : Bool} {x y : V} {p q : Value} {r : Array TypeId} {ty : TypeId} (hx : VR P w gh ob x p) (hy : VR P w gh ob y q) (hs : (minV lo x y).1) :
    ∃ z, (∀ w : World, (if lo then Builtin.min_ r ty #[p, q] else Builtin.max_ r ty #[p, q]).run P w = .ok z w) ∧ VR P w gh ob (minV lo x y).2 z := by
  unfold minV at hs ⊢
  split at hs
  · have h1 := hx.sc_inv; have h2 := hy.sc_inv; subst h1; subst h2
    cases lo
    · exact ⟨_, fun w => by simp [Builtin.max_, Builtin.max2], .sc rfl⟩
    · exact ⟨_, fun w => by simp [Builtin.min_, Builtin.min2], .sc rfl⟩
  · exact hs.elim

theorem index_sound {t : TypeId} {x y : V} {p q : Value} (hx : VR P w gh ob x p) (hy : VR P w gh ob y q) (hs : (indexV P t x y).1) : ∃ z, (∀ w : World, (Instr.index t p q).run P w = .ok z w) ∧ VR P w gh ob (indexV P t x y).2 z := by
  unfold indexV at hs ⊢
  split at hs
  · rename_i s k i
    have h1 := hx.sc_inv; have h2 := hy.sc_inv; subst h1; subst h2
    obtain ⟨h1, h2, h3⟩ := hs
    have hlt : i.toNat < s.size := by omega
    refine ⟨.int .u8 ((s.data.toList.getD i.toNat 0).toNat), fun w => ?_, .sc rfl⟩
    have hb : s[i.toNat]? = some (s.data.toList.getD i.toNat 0) := by
      rw [getElem?_pos s i.toNat hlt]
      simp only [Option.some.injEq, List.getD]
      rw [List.getElem?_eq_getElem (by simpa using hlt)]
      rfl
    simp [Instr.index, asIntOf, run_underlying h1, h2, hb]
  · exact hs.elim

theorem extract_sound {i : Nat} {x : V} {p : Value} (hx : VR P w gh ob x p) (hs : (extractV i x).1) : ∃ z, (∀ w : World, (Instr.extract p i).run P w = .ok z w) ∧ VR P w gh ob (extractV i x).2 z := by
  cases hx <;> simp only [extractV] at hs ⊢ <;> try exact hs.elim
  case tup vs us hl h =>
    have hi : i < us.size := by omega
    refine ⟨us[i], fun w => by simp [Instr.extract, hi], ?_⟩
    have := h i (vs.getD i .dead) (by rw [List.getElem?_eq_getElem hs]; simp [List.getD, hs])
    simpa [Array.getD, hi] using this

theorem field_sound {s f : TypeId} {x : V} {p : Value} (hx : VR P w gh ob x p) (hs : (fieldV P s f x).1) : ∃ z, (∀ w : World, (Instr.field s p f).run P w = .ok z w) ∧ VR P w gh ob (fieldV P s f x).2 z := by
  unfold fieldV at hs ⊢
  split at hs
  case h_2 => exact hs.elim
  rename_i fs hu
  split at hs
  case h_2 => exact hs.elim
  rename_i fd hfd
  cases hx <;> (try simp only at hs ⊢) <;> try exact hs.elim
  case agg vs us hl h1 h =>
    split at hs
    case h_2 => exact hs.elim
    rename_i hr
    obtain ⟨d, hd, hrow⟩ := Option.map_eq_some_iff.1 hr
    have hs : fd.offset < vs.length := hs
    have hi : fd.offset < us.size := by omega
    have hagg : ∀ w : World, (isAgg fd.type).run P w = .ok false w := by
      intro w
      unfold isAgg
      rw [Sem.run_bind, run_underlying hd w]
      cases d <;> simp_all
    refine ⟨us[fd.offset], fun w => by simp [Instr.field, run_underlying hu, hfd, asAgg, part, Sem.run_bind, hagg, hi], ?_⟩
    simp only [hr]
    have := h fd.offset (vs.getD fd.offset .dead) (by rw [List.getElem?_eq_getElem hs]; simp [List.getD, hs])
    simpa [Array.getD, hi] using this
end
end Go.Proofs.YtaodmogcjpainaaDoor.AW
