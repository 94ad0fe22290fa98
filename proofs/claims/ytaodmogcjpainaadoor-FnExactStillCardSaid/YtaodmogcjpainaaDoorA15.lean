/- What is written through a pointer comes to what is told of it. No condition. -/
import Derived.Test.YtaodmogcjpainaaDoorA14
namespace Go.Proofs.YtaodmogcjpainaaDoor.AW
open Go.RowKit
set_option linter.unusedSimpArgs false
set_option linter.unusedVariables false

section
variable {P : Program} {w w1 : World} {C : Cx} {X : Nat → Prop} {gh : Gh} {st : St} {a : Act} {v : V} {u : Value} {ob : List (Nat × Ob)}

theorem Rep.dst (h : Rep P C X st a w gh) {d : Option Nat} (hlt : ∀ k, d = some k → k < st.nt) (hv : VR P w gh st.ob v u) : Rep P C X (setDst st d v) (a.put d u) w gh := by
  cases d with
  | none => exact h
  | some d => exact h.set (hlt d rfl) hv

theorem setL_nil {α : Type} (xs : List α) (o : Nat) : setL xs o [] = xs := rfl

theorem store_sound (h : Rep P C No st a w gh) {o : Oper} {t : TypeId} {x y : Operand} {K : St → Prop} (ho : o.op = .store t x y) (hlt : ∀ k, o.dst = some k → k < st.nt) (hox : (st.ev x).ok) (hoy : (st.ev y).ok)
    (hk : aStore P st t (st.ev x).str (st.ev y).str o.dst K) : Comes1 P C o a w K := by
  unfold aStore at hk
  split at hk
  case h_1 => exact hk.elim
  rename_i vs hf
  obtain ⟨hs, hlen, hpos, hk⟩ := hk
  obtain ⟨hsz, h1, hv⟩ := flat_sound (h.use y hoy) hf
  obtain ⟨gh1, G, hr, hS, hq, hl, how, hG, hd1, _⟩ := toDs_sound h hv hs
  have hp := h.use x hox
  have hcl : (a.eval y).cells.toList.length = (toDs st vs).2.2.length := by rw [hl]; simpa using hsz
  have h1' : ∀ u ∈ (a.eval y).cells.toList, u.oneCell' = true := fun u hu => h1 u (by simpa using hu)
  have hGn : ∀ q k o' b', q < (toDs st vs).2.2.length → G q k → look (toDs st vs).2.1.ob o' = some b' → ¬ gh1.F o' k := fun q k o' b' hq hk hb hF => hr.xF o' b' k hb (Or.inr ⟨q, by omega, hk⟩) hF
  have how' : ∀ q d, (toDs st vs).2.2[q]? = some d → Ow P w gh1.S d ((a.eval y).cells.toList.getD q undef) (G q) := fun q d hd => by rw [hS]; exact how q d hd
  have hGG : ∀ q q' k, q < (toDs st vs).2.2.length → q' < (toDs st vs).2.2.length → G q k → G q' k → q = q' := fun q q' k h1 h2 => hd1 q q' k (by omega) (by omega)
  have fin : ∀ (ob' : Nat) (x x' : Ob) (b f : Nat) (F1 : Nat → Prop), look (toDs st vs).2.1.ob ob' = some x → x.like x' → gh1.F ob' b → w.there b f (a.eval y).cells.size →
      (∀ q, q < (a.eval y).cells.size → C.w0.heap.size ≤ b ∨ C.may b (f + q)) →
      ObR P (w.setCells b f (a.eval y).cells.toList) (gh1.upd ob' (gh1.hv ob') (gh1.bb ob') (gh1.bo ob') F1) ob' x' → (∀ k, F1 k → gh1.F ob' k ∨ ∃ q, q < (toDs st vs).2.2.length ∧ G q k) →
      (∃ z, z = Value.pointer (some ⟨b, f, none⟩) ∧ z = a.eval (match o.op with | .store _ p _ => p | _ => .const undef)) → K (setDst ((toDs st vs).2.1.swap ob' x') o.dst .und) → Comes1 P C o a w K := by
    intro ob' x0 x' b f F1 hx0 hlk hbF hth hmay hobr hF1 hz hK
    obtain ⟨z, rfl, hz⟩ := hz
    rw [ho] at hz
    simp only at hz
    have hne : ∀ k, k ≠ b → (w.setCells b f (a.eval y).cells.toList).heap[k]? = w.heap[k]? := fun k hk => setCells_heap b _ _ w k hk
    have hr2 := hr.swap (w1 := w.setCells b f (a.eval y).cells.toList) (F := F1) (X' := No) hx0 hlk (by rw [setCells_size]; exact Nat.le_refl _) (fun o' y' k hne' hy hk => hne k (fun e => by
      subst e; exact hne' (hr.dis o' ob' y' x0 _ hy hx0 hk hbF)))
      (fun k hk => hne k (fun e => by subst e; exact hr.nS ob' x0 _ hx0 hbF hk))
      (World.keptBut_setCells b _ _ w (fun q hq => ⟨b, f + q, rfl, hmay q (by simpa using hq)⟩)) hobr (fun k hk => (hF1 k hk).imp id (fun ⟨q, hq, hk⟩ => Or.inr ⟨q, by omega, hk⟩)) (fun k hk => hk.elim) (fun _ _ _ hk => hk.elim)
    refine ⟨.skip, w.setCells b f (a.eval y).cells.toList, ?_, Or.inr ⟨rfl, _, _, hK, hr2.dst (fun k hk => ?_) .und⟩⟩
    · simp only [execOp, ho, ← hz]
      have := run_storeAt (P := P) w b f t (a.eval y) hth (by rw [hsz, hlen]) hpos h1
      simp [Sem.run_bind, this]
    · have := hlt k hk
      simp only [St.swap]; rw [toDs_nt]; exact this
  split at hk
  · rename_i o1 j hpv
    split at hk
    case h_2 => exact hk.elim
    rename_i cs hcs
    obtain ⟨hj, hk⟩ := hk
    have hpv' : a.eval x = .pointer (some ⟨gh1.bb o1, gh1.bo o1 + j, none⟩) := by
      rw [hpv] at hp
      generalize a.eval x = z at hp
      cases hp with
      | bp hx => rw [hq.2.1, hq.2.2]
    obtain ⟨F1, g1, g2, g3, g4⟩ := (hr.obs o1 _ hcs).storeBox (ds := (toDs st vs).2.2) (j := j) (G := G) (by omega) hcl h1' how' hGG (fun q k hq hk => hGn q k o1 _ hq hk hcs) (fun k hk => hr.nS o1 _ k hcs hk)
    refine fin o1 _ _ _ _ F1 hcs (by simp [Ob.like, setL_length]) g3 (by simpa using g4) (fun q hq => ?_) g1 g2 ⟨_, rfl, by rw [ho]; exact hpv'.symm⟩ hk
    rw [Nat.add_assoc]
    exact hr.wrC o1 cs (j + q) hcs (by omega)
  · rename_i o1 p i j hpv
    split at hk
    case h_2 => exact hk.elim
    rename_i x1 hx1
    split at hk
    case h_2 => exact hk.elim
    rename_i e es hsub
    obtain ⟨hst, hi, hj, hk⟩ := hk
    obtain ⟨v', F', n1, n2, n3, n4, n5⟩ := (hr.obs o1 _ hx1).up hsub
    have hpv' : ∃ ad c, v' = .slice (some ad) es.length c ∧ a.eval x = .pointer (some ⟨ad.block, ad.off + (i * szT P e + j), none⟩) := by
      rw [hpv] at hp
      generalize a.eval x = z at hp
      cases hp with
      | rp hx hn =>
        rw [hst] at hx; cases hx
        obtain ⟨e1, e2⟩ := (hn.ghc hq.1 hq.2.1 hq.2.2).fn n1
        cases e1
        exact ⟨_, _, e2.symm, rfl⟩
    obtain ⟨ad, c, rfl, hpv'⟩ := hpv'
    obtain ⟨F1, s1, s2, s3, s4, s5⟩ := n2.store (g := 0) (ds := (toDs st vs).2.2) (j := j) (G := G) hi (by omega) hcl h1' how' hGG (fun q k hq hk hF => hGn q k o1 _ hq hk hx1 (n3 k hF)) (fun k hk => hr.nS o1 _ k hx1 (n3 k hk))
    have hu := n5 (w.setCells ad.block (ad.off + (i * szT P e + j)) (a.eval y).cells.toList) e _ F1 (fun k hk => setCells_heap _ _ _ w k (fun e' => by subst e'; exact hr.nS o1 _ _ hx1 (n3 _ s3) hk))
      (fun k hk hk' => setCells_heap _ _ _ w k (fun e' => by subst e'; exact hk' s3)) s1 (fun k hk hF => (s2 k hk).elim id (fun ⟨q, hq, hG'⟩ => (hGn q k o1 _ hq hG' hx1 hF).elim))
    refine fin o1 _ _ _ _ _ hx1 (hu.2 rfl (by simp)) (n3 _ s3) (by simpa using s5 0 (by omega)) (fun q hq => ?_) hu.1 (fun k hk => ?_) ⟨_, rfl, by rw [ho]; exact hpv'.symm⟩ hk
    · have : C.w0.heap.size ≤ ad.block ∨ ∀ f, C.may ad.block f := by
        cases x1 with
        | row e' es' => exact hr.wrR o1 e' es' _ hx1 (n3 _ s3)
        | box cs' => exact hr.wrB o1 cs' _ hx1 (n3 _ s3) (n4 cs' _ rfl s3)
      exact this.imp id (fun hh => hh _)
    · rcases hk with ⟨hk, _⟩ | hk
      · exact Or.inl hk
      · exact (s2 k hk).imp (n3 k) id
  · exact hk.elim
end
end Go.Proofs.YtaodmogcjpainaaDoor.AW
