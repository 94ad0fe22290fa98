/- What memory holds, told as trees of data: rows that are only looked at, rows of one's own, and how both stand a change of other blocks. No condition. -/
import Derived.Laws.OwnMore
import Derived.Deep.MidRow
import Derived.Carry
namespace Go.Proofs.YtaodmogcjpainaaDoor.AW
open Go.RowKit

/-- Data: a number, flag or text; a row of elements, each in its cells. sh: it is shared (only looked at). -/
inductive D where
  | dead
  | sc (v : Value)
  | row (sh : Bool) (e : TypeId) (es : List (List D))

/-- How many cells a type has. -/
def szT (P : Program) (e : TypeId) : Nat := ((P.info? e).map (·.size)).getD 0

def cellAt (es : List (List D)) (i j : Nat) : Option D := (es[i]?).bind (·[j]?)

/-- What is only looked at, in blocks that stand still (S). -/
inductive Ro (P : Program) (w : World) (S : Nat → Prop) : D → Value → Prop
  | dead {v : Value} (h : v.oneCell' = true) : Ro P w S .dead v
  | sc {v : Value} (h : v.oneCell' = true) : Ro P w S (.sc v) v
  | row {sh : Bool} {e : TypeId} {es : List (List D)} {A : Option Addr} {c : Nat} (U : Nat → Nat → Value) (hl : es.length ≤ c) (hm : c ≤ maxLen)
      (hsz : ∀ l ∈ es, l.length = szT P e)
      (hA : 0 < es.length → ∃ ad, A = some ad ∧ ad.spot = none ∧ S ad.block ∧ ∀ i j d, cellAt es i j = some d → w.cell? ⟨ad.block, ad.off + (i * szT P e + j), none⟩ = some (U i j))
      (hU : ∀ i j d, cellAt es i j = some d → Ro P w S d (U i j)) : Ro P w S (.row sh e es) (.slice A es.length c)

/-- What is one's own, with its blocks (the last argument). -/
inductive Ow (P : Program) (w : World) (S : Nat → Prop) : D → Value → (Nat → Prop) → Prop
  | dead {v : Value} (h : v.oneCell' = true) : Ow P w S .dead v (fun _ => False)
  | sc {v : Value} (h : v.oneCell' = true) : Ow P w S (.sc v) v (fun _ => False)
  | shared {e : TypeId} {es : List (List D)} {v : Value} (h : Ro P w S (.row true e es) v) : Ow P w S (.row true e es) v (fun _ => False)
  | row {e : TypeId} {es : List (List D)} {v : Value} (xs : List Value) (F : Nat → Nat → Nat → Prop)
      (own : w.ownsRow 0 e (szT P e) v es.length xs) (hsz : ∀ l ∈ es, l.length = szT P e) (h1 : ∀ u ∈ xs, u.oneCell' = true)
      (hx : ∀ i j d, cellAt es i j = some d → Ow P w S d (xs.getD (i * szT P e + j) undef) (F i j))
      (dis : ∀ i j i' j' d d' k, cellAt es i j = some d → cellAt es i' j' = some d' → F i j k → F i' j' k → i = i' ∧ j = j')
      (nb : ∀ i j d k, cellAt es i j = some d → F i j k → v.ownBlock ≠ some k) :
      Ow P w S (.row false e es) v (fun k => v.ownBlock = some k ∨ ∃ i j d, cellAt es i j = some d ∧ F i j k)

section
variable {P : Program} {w w1 : World} {S S' : Nat → Prop} {d d2 : D} {v v2 : Value} {F : Nat → Prop} {p : List (Nat × Nat)}

theorem Ro.one (h : Ro P w S d v) : v.oneCell' = true := by
  cases h with
  | dead h => exact h
  | sc h => exact h
  | row => rfl

theorem ownsRow_one {base : Nat} {e : TypeId} {size n : Nat} {xs : List Value} (h : w.ownsRow base e size v n xs) : v.oneCell' = true := by
  rcases h.2 with ⟨rfl, _⟩ | ⟨g, cap, cur, rfl, _⟩ <;> rfl

theorem Ow.one (h : Ow P w S d v F) : v.oneCell' = true := by
  cases h with
  | dead h => exact h
  | sc h => exact h
  | shared h => exact h.one
  | row xs F own => exact ownsRow_one own

theorem Ro.move (h : Ro P w S d v) (hS : ∀ k, S k → w1.heap[k]? = w.heap[k]?) : Ro P w1 S d v := by
  induction h with
  | dead h => exact .dead h
  | sc h => exact .sc h
  | row U hl hm hsz hA hU ih =>
    refine .row U hl hm hsz (fun h0 => ?_) ih
    obtain ⟨ad, e1, e2, e3, e4⟩ := hA h0
    exact ⟨ad, e1, e2, e3, fun i j d hd => (World.cell?_of_block (a := ⟨ad.block, _, none⟩) (hS _ e3)).trans (e4 i j d hd)⟩

theorem Ro.mono (h : Ro P w S d v) (hS : ∀ k, S k → S' k) : Ro P w S' d v := by
  induction h with
  | dead h => exact .dead h
  | sc h => exact .sc h
  | row U hl hm hsz hA hU ih =>
    refine .row U hl hm hsz (fun h0 => ?_) ih
    obtain ⟨ad, e1, e2, e3, e4⟩ := hA h0
    exact ⟨ad, e1, e2, hS _ e3, e4⟩

theorem ownsRow_move {base : Nat} {e : TypeId} {size n : Nat} {xs : List Value} (h : w.ownsRow base e size v n xs) (hm : ∀ k, v.ownBlock = some k → w1.heap[k]? = w.heap[k]?) : w1.ownsRow base e size v n xs := by
  obtain ⟨h1, h2⟩ := h
  refine ⟨h1, ?_⟩
  rcases h2 with h2 | ⟨g, cap, cur, rfl, hg, hh, r⟩
  · exact .inl h2
  · exact .inr ⟨g, cap, cur, rfl, hg, (hm g (by simp [Value.ownBlock])).trans hh, r⟩

theorem ownsRow_base {base base' : Nat} {e : TypeId} {size n : Nat} {xs : List Value} (h : w.ownsRow base e size v n xs) (hb : ∀ k, v.ownBlock = some k → base' ≤ k) : w.ownsRow base' e size v n xs := by
  obtain ⟨h1, h2⟩ := h
  refine ⟨h1, ?_⟩
  rcases h2 with h2 | ⟨g, cap, cur, rfl, hg, r⟩
  · exact .inl h2
  · exact .inr ⟨g, cap, cur, rfl, hb g (by simp [Value.ownBlock]), r⟩

theorem Ow.move (h : Ow P w S d v F) (hF : ∀ k, F k → w1.heap[k]? = w.heap[k]?) (hS : ∀ k, S k → w1.heap[k]? = w.heap[k]?) : Ow P w1 S d v F := by
  induction h with
  | dead h => exact .dead h
  | sc h => exact .sc h
  | shared h => exact .shared (h.move hS)
  | row xs F own hsz h1 hx dis nb ih =>
    exact .row xs F (ownsRow_move own (fun k hk => hF k (Or.inl hk))) hsz h1 (fun i j d hd => ih i j d hd (fun k hk => hF k (Or.inr ⟨i, j, d, hd, hk⟩))) dis nb

theorem Ow.mono (h : Ow P w S d v F) (hS : ∀ k, S k → S' k) : Ow P w S' d v F := by
  induction h with
  | dead h => exact .dead h
  | sc h => exact .sc h
  | shared h => exact .shared (h.mono hS)
  | row xs F own hsz h1 hx dis nb ih => exact .row xs F own hsz h1 ih dis nb

/-- Blocks of one's own are there. -/
theorem Ow.lt (h : Ow P w S d v F) : ∀ k, F k → k < w.heap.size := by
  induction h with
  | dead h => exact fun k hk => hk.elim
  | sc h => exact fun k hk => hk.elim
  | shared h => exact fun k hk => hk.elim
  | row xs F own hsz h1 hx dis nb ih =>
    rintro k (hk | ⟨i, j, d, hd, hk⟩)
    · exact (own.lt k hk).2
    · exact ih i j d hd k hk


theorem Ow.congr {F' : Nat → Prop} (h : Ow P w S d v F) (he : ∀ k, F k ↔ F' k) : Ow P w S d v F' := by
  have : F = F' := funext fun k => propext (he k)
  exact this ▸ h

theorem cellAt_lt {es : List (List D)} {i j : Nat} {d : D} (h : cellAt es i j = some d) : i < es.length := by
  unfold cellAt at h
  by_cases hi : i < es.length
  · exact hi
  · rw [List.getElem?_eq_none (by omega)] at h; cases h

theorem cellAt_len {es : List (List D)} {n i j : Nat} {d : D} (h : cellAt es i j = some d) (hsz : ∀ l ∈ es, l.length = n) : j < n := by
  unfold cellAt at h
  have hi : i < es.length := cellAt_lt h
  rw [List.getElem?_eq_getElem hi] at h
  have hl := hsz _ (List.getElem_mem hi)
  simp only [Option.bind_some] at h
  rw [← hl]
  exact (List.getElem?_eq_some_iff.1 h).1

theorem off_lt {i j n m : Nat} (hi : i < n) (hj : j < m) : i * m + j < n * m := by
  have : (i + 1) * m ≤ n * m := Nat.mul_le_mul_right _ hi
  rw [Nat.add_mul] at this
  omega

theorem off_inj {i j i' j' m : Nat} (hj : j < m) (hj' : j' < m) (h : i * m + j = i' * m + j') : i = i' ∧ j = j' := by
  have hm : 0 < m := by omega
  have e1 : i = (i * m + j) / m := by rw [Nat.mul_comm, Nat.mul_add_div hm]; simp [Nat.div_eq_of_lt hj]
  have e2 : i' = (i' * m + j') / m := by rw [Nat.mul_comm, Nat.mul_add_div hm]; simp [Nat.div_eq_of_lt hj']
  have : i = i' := by rw [e1, e2, h]
  subst this
  exact ⟨rfl, by omega⟩

/-- The cells of a row that is not empty: where they lie. -/
theorem ownsRow_cell {base : Nat} {e : TypeId} {size n : Nat} {xs : List Value} (h : w.ownsRow base e size v n xs) (hn : 0 < n) :
    ∃ g cap, v = .slice (some ⟨g, 0, none⟩) n cap ∧ n ≤ cap ∧ cap ≤ maxLen ∧ (∀ j, j < n * size → w.cell? ⟨g, j, none⟩ = xs[j]?) ∧ (∀ j, w.frozen? ⟨g, j, none⟩ = false) := by
  rcases h.2 with ⟨_, h0⟩ | ⟨g, cap, cur, rfl, hg, hh, hc, hm, r⟩
  · omega
  · exact ⟨g, cap, rfl, hc, hm, fun j hj => World.ownsRow.cellAt h j hj, fun j => World.ownsRow.frozenAt h j⟩

theorem getD_of_lt {xs : List Value} {j : Nat} (h : j < xs.length) : xs[j]? = some (xs.getD j undef) := by
  rw [List.getElem?_eq_getElem h]; simp [List.getD, List.getElem?_eq_getElem h]

/-- What is one's own may be looked at. -/
theorem Ow.ro (h : Ow P w S d v F) (hF : ∀ k, F k → S' k) (hS : ∀ k, S k → S' k) : Ro P w S' d v := by
  induction h with
  | dead h => exact .dead h
  | sc h => exact .sc h
  | shared h => exact h.mono hS
  | @row e es v xs F own hsz h1 hx dis nb ih =>
    have hxl := own.1
    have hU : ∀ i j d, cellAt es i j = some d → Ro P w S' d (xs.getD (i * szT P e + j) undef) := fun i j d hd => ih i j d hd (fun k hk => hF k (Or.inr ⟨i, j, d, hd, hk⟩))
    by_cases hn : 0 < es.length
    · obtain ⟨g, cap, rfl, hc, hm, hcell, _⟩ := ownsRow_cell own hn
      refine .row (fun i j => xs.getD (i * szT P e + j) undef) hc hm hsz (fun _ => ⟨⟨g, 0, none⟩, rfl, rfl, hF g (Or.inl rfl), fun i j d hd => ?_⟩) hU
      have hlt := off_lt (cellAt_lt hd) (cellAt_len hd hsz)
      simp only [Nat.zero_add]
      rw [hcell _ hlt]
      exact getD_of_lt (by rw [hxl]; exact hlt)
    · have h0 : es = [] := List.eq_nil_of_length_eq_zero (by omega)
      subst h0
      rcases own.2 with ⟨rfl, _⟩ | ⟨g, cap, cur, rfl, hg, hh, hc, hm, r⟩
      · exact .row (fun _ _ => undef) (Nat.le_refl _) (Nat.zero_le _) (by simp) (fun h => absurd h (Nat.lt_irrefl 0)) (fun i j d hd => by simp [cellAt] at hd)
      · exact .row (fun _ _ => undef) hc hm (by simp) (fun h => absurd h (Nat.lt_irrefl 0)) (fun i j d hd => by simp [cellAt] at hd)

/-! ### Ways down -/
def subD : D → List (Nat × Nat) → Option D
  | d, [] => some d
  | .row false _ es, (i, j) :: p => (cellAt es i j).bind (subD · p)
  | _, _ :: _ => none

def setCellAt (es : List (List D)) (i j : Nat) (d : D) : List (List D) := es.set i ((es.getD i []).set j d)

def setD : D → List (Nat × Nat) → D → D
  | _, [], d1 => d1
  | .row sh e es, (i, j) :: p, d1 => .row sh e (setCellAt es i j (setD ((cellAt es i j).getD .dead) p d1))
  | d, _ :: _, _ => d

theorem cellAt_setCellAt {es : List (List D)} {i j i' j' : Nat} {d d0 : D} (h0 : cellAt es i j = some d0) :
    cellAt (setCellAt es i j d) i' j' = if i = i' ∧ j = j' then some d else cellAt es i' j' := by
  have hi := cellAt_lt h0
  unfold cellAt at h0 ⊢
  unfold setCellAt
  rw [List.getElem?_eq_getElem hi] at h0
  simp only [Option.bind_some] at h0
  have hj : j < (es[i]).length := (List.getElem?_eq_some_iff.1 h0).1
  by_cases e1 : i = i'
  · subst e1
    rw [List.getElem?_set_self hi]
    simp only [Option.bind_some, List.getD, List.getElem?_eq_getElem hi, Option.getD_some]
    by_cases e2 : j = j'
    · subst e2
      rw [List.getElem?_set_self hj]; simp
    · rw [List.getElem?_set_ne e2]; simp [e2]
  · rw [List.getElem?_set_ne e1]; simp [e1]

theorem len_setCellAt {es : List (List D)} {i j n : Nat} {d : D} (hsz : ∀ l ∈ es, l.length = n) : ∀ l ∈ setCellAt es i j d, l.length = n := by
  intro l hl
  unfold setCellAt at hl
  rcases List.mem_or_eq_of_mem_set hl with h | h
  · exact hsz l h
  · subst h
    by_cases hi : i < es.length
    · rw [List.length_set, List.getD, List.getElem?_eq_getElem hi]; exact hsz _ (List.getElem_mem hi)
    · rw [List.set_eq_of_length_le (by omega)] at hl
      exact hsz _ hl

@[simp] theorem length_setCellAt {es : List (List D)} {i j : Nat} {d : D} : (setCellAt es i j d).length = es.length := by simp [setCellAt]

/-- A value met on a way down. -/
inductive Nav (P : Program) (w : World) : D → Value → List (Nat × Nat) → D → Value → Prop
  | nil {d : D} {v : Value} : Nav P w d v [] d v
  | cons {e : TypeId} {es : List (List D)} {ad : Addr} {l c i j : Nat} {d1 d2 : D} {v1 v2 : Value} {p : List (Nat × Nat)} (hc : cellAt es i j = some d1)
      (hw : w.cell? ⟨ad.block, ad.off + (i * szT P e + j), none⟩ = some v1) (hn : Nav P w d1 v1 p d2 v2) : Nav P w (.row false e es) (.slice (some ad) l c) ((i, j) :: p) d2 v2

theorem Nav.move (h : Nav P w d v p d2 v2) (hw : ∀ a u, w.cell? a = some u → w1.cell? a = some u) : Nav P w1 d v p d2 v2 := by
  induction h with
  | nil => exact .nil
  | cons hc hw' hn ih => exact .cons hc (hw _ _ hw') ih

theorem Nav.fn {d : D} {v : Value} {p : List (Nat × Nat)} {d2 d3 : D} {v2 v3 : Value} (h : Nav P w d v p d2 v2) (h' : Nav P w d v p d3 v3) : d2 = d3 ∧ v2 = v3 := by
  induction h generalizing d3 v3 with
  | nil => cases h'; exact ⟨rfl, rfl⟩
  | cons hc hw hn ih =>
    cases h' with
    | cons hc' hw' hn' =>
      rw [hc] at hc'; cases hc'
      rw [hw] at hw'; cases hw'
      exact ih hn'

/-- From a row of one's own down to a row within; and up again, when that one has turned. -/
theorem Ow.focus {p : List (Nat × Nat)} : ∀ {d : D} {v : Value} {F : Nat → Prop} {d' : D}, Ow P w S d v F → subD d p = some d' → ∃ v' F', Nav P w d v p d' v' ∧ Ow P w S d' v' F' ∧ (∀ k, F' k → F k) ∧
    ∀ w1 d1 F1, (∀ k, S k → w1.heap[k]? = w.heap[k]?) → (∀ k, F k → ¬ F' k → w1.heap[k]? = w.heap[k]?) → Ow P w1 S d1 v' F1 → (∀ k, F1 k → F k → F' k) →
      Ow P w1 S (setD d p d1) v (fun k => (F k ∧ ¬ F' k) ∨ F1 k) := by
  induction p with
  | nil =>
    intro d v F d' h hs
    simp only [subD, Option.some.injEq] at hs
    subst hs
    refine ⟨v, F, .nil, h, fun _ hk => hk, fun w1 d1 F1 _ _ h1 hF1 => ?_⟩
    simp only [setD]
    exact h1.congr fun k => ⟨Or.inr, fun hk => hk.elim (fun h => absurd h.1 h.2) id⟩
  | cons ij p ih =>
    obtain ⟨i, j⟩ := ij
    intro d v F d' h hs
    cases h with
    | dead => simp [subD] at hs
    | sc => simp [subD] at hs
    | shared => simp [subD] at hs
    | @row e es v xs G own hsz h1 hx dis nb =>
      simp only [subD, Option.bind_eq_some_iff] at hs
      obtain ⟨dm, hc, hs⟩ := hs
      obtain ⟨v', F', hnav, how, hsub, hup⟩ := ih (hx i j dm hc) hs
      have hlt := off_lt (cellAt_lt hc) (cellAt_len hc hsz)
      obtain ⟨g, cap, rfl, hcc, hm, hcell, hfz⟩ := ownsRow_cell own (by have := cellAt_lt hc; omega)
      have hxl := own.1
      refine ⟨v', F', .cons (ad := ⟨g, 0, none⟩) hc (by simp only [Nat.zero_add]; rw [hcell _ hlt]; exact getD_of_lt (by rw [hxl]; exact hlt)) hnav, how, fun k hk => Or.inr ⟨i, j, dm, hc, hsub k hk⟩, ?_⟩
      intro w1 d1 F1 hS hF ho hF1
      have hg' : ∀ i' j' d' k, cellAt es i' j' = some d' → G i' j' k → F' k → i' = i ∧ j' = j := fun i' j' d' k hd' hk hk' => dis i' j' i j d' dm k hd' hc hk (hsub k hk')
      have hgb : ∀ k, F' k → Value.ownBlock (.slice (some ⟨g, 0, none⟩) es.length cap) ≠ some k := fun k hk => nb i j dm k hc (hsub k hk)
      have hin := hup w1 d1 F1 hS (fun k hk hk' => hF k (Or.inr ⟨i, j, dm, hc, hk⟩) hk') ho (fun k hk hk' => hF1 k hk (Or.inr ⟨i, j, dm, hc, hk'⟩))
      simp only [setD, hc, Option.getD_some]
      let G1 : Nat → Nat → Nat → Prop := fun i' j' k => if i = i' ∧ j = j' then ((G i j k ∧ ¬ F' k) ∨ F1 k) else G i' j' k
      have hblock : w1.heap[g]? = w.heap[g]? := hF g (Or.inl rfl) (fun hk => hgb g hk rfl)
      have key : Ow P w1 S (.row false e (setCellAt es i j (setD dm p d1))) (.slice (some ⟨g, 0, none⟩) es.length cap)
          (fun k => Value.ownBlock (.slice (some ⟨g, 0, none⟩) es.length cap) = some k ∨ ∃ i' j' d', cellAt (setCellAt es i j (setD dm p d1)) i' j' = some d' ∧ G1 i' j' k) := by
        refine .row xs G1 ?_ (len_setCellAt hsz) h1 ?_ ?_ ?_
        · rw [length_setCellAt]
          exact ownsRow_move own (fun k hk => by simp only [Value.ownBlock, Option.some.injEq] at hk; subst hk; exact hblock)
        · intro i' j' d'' hd''
          rw [cellAt_setCellAt hc] at hd''
          by_cases hij : i = i' ∧ j = j'
          · rw [if_pos hij] at hd''
            obtain ⟨rfl, rfl⟩ := hij
            cases hd''
            exact hin.congr fun k => by simp only [G1]; rw [if_pos ⟨trivial, trivial⟩]
          · rw [if_neg hij] at hd''
            refine ((hx i' j' d'' hd'').move (fun k hk => hF k (Or.inr ⟨i', j', d'', hd'', hk⟩) (fun hk' => ?_)) hS).congr fun k => by simp only [G1]; rw [if_neg hij]
            obtain ⟨e1, e2⟩ := hg' i' j' d'' k hd'' hk hk'
            exact hij ⟨e1.symm, e2.symm⟩
        · intro i1 j1 i2 j2 da db k hd1 hd2 hk1 hk2
          rw [cellAt_setCellAt hc] at hd1 hd2
          simp only [G1] at hk1 hk2
          have in1 : ∀ i' j' d'', cellAt es i' j' = some d'' → ¬ (i = i' ∧ j = j') → G i' j' k → ((G i j k ∧ ¬ F' k) ∨ F1 k) → False := by
            intro i' j' d'' hd'' hne hk hor
            rcases hor with ⟨ha, _⟩ | ha
            · obtain ⟨e1, e2⟩ := dis i' j' i j d'' dm k hd'' hc hk ha
              exact hne ⟨e1.symm, e2.symm⟩
            · obtain ⟨e1, e2⟩ := hg' i' j' d'' k hd'' hk (hF1 k ha (Or.inr ⟨i', j', d'', hd'', hk⟩))
              exact hne ⟨e1.symm, e2.symm⟩
          by_cases c1 : i = i1 ∧ j = j1 <;> by_cases c2 : i = i2 ∧ j = j2
          · obtain ⟨rfl, rfl⟩ := c1; obtain ⟨rfl, rfl⟩ := c2; exact ⟨rfl, rfl⟩
          · rw [if_pos c1] at hk1; rw [if_neg c2] at hk2 hd2
            exact (in1 i2 j2 db hd2 c2 hk2 hk1).elim
          · rw [if_neg c1] at hk1 hd1; rw [if_pos c2] at hk2
            exact (in1 i1 j1 da hd1 c1 hk1 hk2).elim
          · rw [if_neg c1] at hk1 hd1; rw [if_neg c2] at hk2 hd2
            exact dis i1 j1 i2 j2 da db k hd1 hd2 hk1 hk2
        · intro i' j' d'' k hd'' hk
          rw [cellAt_setCellAt hc] at hd''
          simp only [G1] at hk
          by_cases c1 : i = i' ∧ j = j'
          · rw [if_pos c1] at hk
            rcases hk with ⟨hk, _⟩ | hk
            · exact nb i j dm k hc hk
            · exact fun hg => hgb k (hF1 k hk (Or.inl hg)) hg
          · rw [if_neg c1] at hk hd''
            exact nb i' j' d'' k hd'' hk
      refine key.congr fun k => ⟨?_, ?_⟩
      · rintro (hk | ⟨i', j', d'', hd'', hk⟩)
        · exact Or.inl ⟨Or.inl hk, fun hk' => hgb k hk' hk⟩
        · rw [cellAt_setCellAt hc] at hd''
          simp only [G1] at hk
          by_cases c1 : i = i' ∧ j = j'
          · rw [if_pos c1] at hk
            rcases hk with ⟨ha, hb⟩ | ha
            · exact Or.inl ⟨Or.inr ⟨i, j, dm, hc, ha⟩, hb⟩
            · exact Or.inr ha
          · rw [if_neg c1] at hk hd''
            refine Or.inl ⟨Or.inr ⟨i', j', d'', hd'', hk⟩, fun hk' => ?_⟩
            obtain ⟨e1, e2⟩ := hg' i' j' d'' k hd'' hk hk'
            exact c1 ⟨e1.symm, e2.symm⟩
      · rintro (⟨hk | ⟨i', j', d'', hd'', hk⟩, hn⟩ | hk)
        · exact Or.inl hk
        · by_cases c1 : i = i' ∧ j = j'
          · obtain ⟨rfl, rfl⟩ := c1
            refine Or.inr ⟨i, j, setD dm p d1, ?_, ?_⟩
            · rw [cellAt_setCellAt hc, if_pos ⟨rfl, rfl⟩]
            · simp only [G1]; rw [if_pos ⟨trivial, trivial⟩]; exact Or.inl ⟨hk, hn⟩
          · refine Or.inr ⟨i', j', d'', ?_, ?_⟩
            · rw [cellAt_setCellAt hc, if_neg c1]; exact hd''
            · simp only [G1]; rw [if_neg c1]; exact hk
        · refine Or.inr ⟨i, j, setD dm p d1, ?_, ?_⟩
          · rw [cellAt_setCellAt hc, if_pos ⟨rfl, rfl⟩]
          · simp only [G1]; rw [if_pos ⟨trivial, trivial⟩]; exact Or.inr hk
end
end Go.Proofs.YtaodmogcjpainaaDoor.AW
