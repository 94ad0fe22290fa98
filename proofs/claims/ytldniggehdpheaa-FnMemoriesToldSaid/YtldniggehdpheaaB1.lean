/- The engine, part 1: what memory holds, told as data; operations, code and calls reckoned upon it. No condition. -/
import Derived.Laws.OwnMore
import Derived.Deep.MidRow
import Derived.Carry
import Derived.Laws.BitsLemmas
import Derived.Laws.Small
import Derived.Deep.Onto
namespace Go.Proofs.Ytldniggehdpheaa.AW
open Go.RowKit

/-- Data: a number, flag or text; a row of elements, each in its cells. sh: it is shared (only looked at). -/
inductive D where
  | dead
  | sc (v : Value)
  | row (sh : Bool) (e : TypeId) (es : List (List D))

/-- How many cells a type has. -/
def szT (P : Program) (e : TypeId) : Nat := ((P.info? e).map (·.size)).getD 0

def cellAt (es : List (List D)) (i j : Nat) : Option D := (es[i]?).bind (·[j]?)

/-- What is only looked at, in blocks that stand still (S). -/
inductive Ro (P : Program) (w : World) (S : Nat → Prop) : D → Value → Prop
  | dead {v : Value} (h : v.oneCell' = true) : Ro P w S .dead v
  | sc {v : Value} (h : v.oneCell' = true) : Ro P w S (.sc v) v
  | row {sh : Bool} {e : TypeId} {es : List (List D)} {A : Option Addr} {c : Nat} (U : Nat → Nat → Value) (hl : es.length ≤ c) (hm : c ≤ maxLen)
      (hsz : ∀ l ∈ es, l.length = szT P e)
      (hA : 0 < es.length → ∃ ad, A = some ad ∧ ad.spot = none ∧ S ad.block ∧ ∀ i j d, cellAt es i j = some d → w.cell? ⟨ad.block, ad.off + (i * szT P e + j), none⟩ = some (U i j))
      (hU : ∀ i j d, cellAt es i j = some d → Ro P w S d (U i j)) : Ro P w S (.row sh e es) (.slice A es.length c)

/-- What is one's own, with its blocks (the last argument). -/
inductive Ow (P : Program) (w : World) (S : Nat → Prop) : D → Value → (Nat → Prop) → Prop
  | dead {v : Value} (h : v.oneCell' = true) : Ow P w S .dead v (fun _ => False)
  | sc {v : Value} (h : v.oneCell' = true) : Ow P w S (.sc v) v (fun _ => False)
  | shared {e : TypeId} {es : List (List D)} {v : Value} (h : Ro P w S (.row true e es) v) : Ow P w S (.row true e es) v (fun _ => False)
  | row {e : TypeId} {es : List (List D)} {v : Value} (xs : List Value) (F : Nat → Nat → Nat → Prop)
      (own : w.ownsRow 0 e (szT P e) v es.length xs) (hsz : ∀ l ∈ es, l.length = szT P e) (h1 : ∀ u ∈ xs, u.oneCell' = true)
      (hx : ∀ i j d, cellAt es i j = some d → Ow P w S d (xs.getD (i * szT P e + j) undef) (F i j))
      (dis : ∀ i j i' j' d d' k, cellAt es i j = some d → cellAt es i' j' = some d' → F i j k → F i' j' k → i = i' ∧ j = j')
      (nb : ∀ i j d k, cellAt es i j = some d → F i j k → v.ownBlock ≠ some k) :
      Ow P w S (.row false e es) v (fun k => v.ownBlock = some k ∨ ∃ i j d, cellAt es i j = some d ∧ F i j k)

section
variable {P : Program} {w w1 : World} {S S' : Nat → Prop} {d d2 : D} {v v2 : Value} {F : Nat → Prop} {p : List (Nat × Nat)}

theorem Ro.one (h : Ro P w S d v) : v.oneCell' = true := by
  cases h with
  | dead h => exact h
  | sc h => exact h
  | row => rfl

theorem ownsRow_one {base : Nat} {e : TypeId} {size n : Nat} {xs : List Value} (h : w.ownsRow base e size v n xs) : v.oneCell' = true := by
  rcases h.2 with ⟨rfl, _⟩ | ⟨g, cap, cur, rfl, _⟩ <;> rfl

theorem Ow.one (h : Ow P w S d v F) : v.oneCell' = true := by
  cases h with
  | dead h => exact h
  | sc h => exact h
  | shared h => exact h.one
  | row xs F own => exact ownsRow_one own

theorem Ro.move (h : Ro P w S d v) (hS : ∀ k, S k → w1.heap[k]? = w.heap[k]?) : Ro P w1 S d v := by
  induction h with
  | dead h => exact .dead h
  | sc h => exact .sc h
  | row U hl hm hsz hA hU ih =>
    refine .row U hl hm hsz (fun h0 => ?_) ih
    obtain ⟨ad, e1, e2, e3, e4⟩ := hA h0
    exact ⟨ad, e1, e2, e3, fun i j d hd => (World.cell?_of_block (a := ⟨ad.block, _, none⟩) (hS _ e3)).trans (e4 i j d hd)⟩

theorem Ro.mono (h : Ro P w S d v) (hS : ∀ k, S k → S' k) : Ro P w S' d v := by
  induction h with
  | dead h => exact .dead h
  | sc h => exact .sc h
  | row U hl hm hsz hA hU ih =>
    refine .row U hl hm hsz (fun h0 => ?_) ih
    obtain ⟨ad, e1, e2, e3, e4⟩ := hA h0
    exact ⟨ad, e1, e2, hS _ e3, e4⟩

theorem ownsRow_move {base : Nat} {e : TypeId} {size n : Nat} {xs : List Value} (h : w.ownsRow base e size v n xs) (hm : ∀ k, v.ownBlock = some k → w1.heap[k]? = w.heap[k]?) : w1.ownsRow base e size v n xs := by
  obtain ⟨h1, h2⟩ := h
  refine ⟨h1, ?_⟩
  rcases h2 with h2 | ⟨g, cap, cur, rfl, hg, hh, r⟩
  · exact .inl h2
  · exact .inr ⟨g, cap, cur, rfl, hg, (hm g (by simp [Value.ownBlock])).trans hh, r⟩

theorem ownsRow_base {base base' : Nat} {e : TypeId} {size n : Nat} {xs : List Value} (h : w.ownsRow base e size v n xs) (hb : ∀ k, v.ownBlock = some k → base' ≤ k) : w.ownsRow base' e size v n xs := by
  obtain ⟨h1, h2⟩ := h
  refine ⟨h1, ?_⟩
  rcases h2 with h2 | ⟨g, cap, cur, rfl, hg, r⟩
  · exact .inl h2
  · exact .inr ⟨g, cap, cur, rfl, hb g (by simp [Value.ownBlock]), r⟩

theorem Ow.move (h : Ow P w S d v F) (hF : ∀ k, F k → w1.heap[k]? = w.heap[k]?) (hS : ∀ k, S k → w1.heap[k]? = w.heap[k]?) : Ow P w1 S d v F := by
  induction h with
  | dead h => exact .dead h
  | sc h => exact .sc h
  | shared h => exact .shared (h.move hS)
  | row xs F own hsz h1 hx dis nb ih =>
    exact .row xs F (ownsRow_move own (fun k hk => hF k (Or.inl hk))) hsz h1 (fun i j d hd => ih i j d hd (fun k hk => hF k (Or.inr ⟨i, j, d, hd, hk⟩))) dis nb

theorem Ow.mono (h : Ow P w S d v F) (hS : ∀ k, S k → S' k) : Ow P w S' d v F := by
  induction h with
  | dead h => exact .dead h
  | sc h => exact .sc h
  | shared h => exact .shared (h.mono hS)
  | row xs F own hsz h1 hx dis nb ih => exact .row xs F own hsz h1 ih dis nb

/-- Blocks of one's own are there. -/
theorem Ow.lt (h : Ow P w S d v F) : ∀ k, F k → k < w.heap.size := by
  induction h with
  | dead h => exact fun k hk => hk.elim
  | sc h => exact fun k hk => hk.elim
  | shared h => exact fun k hk => hk.elim
  | row xs F own hsz h1 hx dis nb ih =>
    rintro k (hk | ⟨i, j, d, hd, hk⟩)
    · exact (own.lt k hk).2
    · exact ih i j d hd k hk


theorem Ow.congr {F' : Nat → Prop} (h : Ow P w S d v F) (he : ∀ k, F k ↔ F' k) : Ow P w S d v F' := by
  have : F = F' := funext fun k => propext (he k)
  exact this ▸ h

theorem cellAt_lt {es : List (List D)} {i j : Nat} {d : D} (h : cellAt es i j = some d) : i < es.length := by
  unfold cellAt at h
  by_cases hi : i < es.length
  · exact hi
  · rw [List.getElem?_eq_none (by omega)] at h; cases h

theorem cellAt_len {es : List (List D)} {n i j : Nat} {d : D} (h : cellAt es i j = some d) (hsz : ∀ l ∈ es, l.length = n) : j < n := by
  unfold cellAt at h
  have hi : i < es.length := cellAt_lt h
  rw [List.getElem?_eq_getElem hi] at h
  have hl := hsz _ (List.getElem_mem hi)
  simp only [Option.bind_some] at h
  rw [← hl]
  exact (List.getElem?_eq_some_iff.1 h).1

theorem off_lt {i j n m : Nat} (hi : i < n) (hj : j < m) : i * m + j < n * m := by
  have : (i + 1) * m ≤ n * m := Nat.mul_le_mul_right _ hi
  rw [Nat.add_mul] at this
  omega

theorem off_inj {i j i' j' m : Nat} (hj : j < m) (hj' : j' < m) (h : i * m + j = i' * m + j') : i = i' ∧ j = j' := by
  have hm : 0 < m := by omega
  have e1 : i = (i * m + j) / m := by rw [Nat.mul_comm, Nat.mul_add_div hm]; simp [Nat.div_eq_of_lt hj]
  have e2 : i' = (i' * m + j') / m := by rw [Nat.mul_comm, Nat.mul_add_div hm]; simp [Nat.div_eq_of_lt hj']
  have : i = i' := by rw [e1, e2, h]
  subst this
  exact ⟨rfl, by omega⟩

/-- The cells of a row that is not empty: where they lie. -/
theorem ownsRow_cell {base : Nat} {e : TypeId} {size n : Nat} {xs : List Value} (h : w.ownsRow base e size v n xs) (hn : 0 < n) :
    ∃ g cap, v = .slice (some ⟨g, 0, none⟩) n cap ∧ n ≤ cap ∧ cap ≤ maxLen ∧ (∀ j, j < n * size → w.cell? ⟨g, j, none⟩ = xs[j]?) ∧ (∀ j, w.frozen? ⟨g, j, none⟩ = false) := by
  rcases h.2 with ⟨_, h0⟩ | ⟨g, cap, cur, rfl, hg, hh, hc, hm, r⟩
  · omega
  · exact ⟨g, cap, rfl, hc, hm, fun j hj => World.ownsRow.cellAt h j hj, fun j => World.ownsRow.frozenAt h j⟩

theorem getD_of_lt {xs : List Value} {j : Nat} (h : j < xs.length) : xs[j]? = some (xs.getD j undef) := by
  rw [List.getElem?_eq_getElem h]; simp [List.getD, List.getElem?_eq_getElem h]

/-- What is one's own may be looked at. -/
theorem Ow.ro (h : Ow P w S d v F) (hF : ∀ k, F k → S' k) (hS : ∀ k, S k → S' k) : Ro P w S' d v := by
  induction h with
  | dead h => exact .dead h
  | sc h => exact .sc h
  | shared h => exact h.mono hS
  | @row e es v xs F own hsz h1 hx dis nb ih =>
    have hxl := own.1
    have hU : ∀ i j d, cellAt es i j = some d → Ro P w S' d (xs.getD (i * szT P e + j) undef) := fun i j d hd => ih i j d hd (fun k hk => hF k (Or.inr ⟨i, j, d, hd, hk⟩))
    by_cases hn : 0 < es.length
    · obtain ⟨g, cap, rfl, hc, hm, hcell, _⟩ := ownsRow_cell own hn
      refine .row (fun i j => xs.getD (i * szT P e + j) undef) hc hm hsz (fun _ => ⟨⟨g, 0, none⟩, rfl, rfl, hF g (Or.inl rfl), fun i j d hd => ?_⟩) hU
      have hlt := off_lt (cellAt_lt hd) (cellAt_len hd hsz)
      simp only [Nat.zero_add]
      rw [hcell _ hlt]
      exact getD_of_lt (by rw [hxl]; exact hlt)
    · have h0 : es = [] := List.eq_nil_of_length_eq_zero (by omega)
      subst h0
      rcases own.2 with ⟨rfl, _⟩ | ⟨g, cap, cur, rfl, hg, hh, hc, hm, r⟩
      · exact .row (fun _ _ => undef) (Nat.le_refl _) (Nat.zero_le _) (by simp) (fun h => absurd h (Nat.lt_irrefl 0)) (fun i j d hd => by simp [cellAt] at hd)
      · exact .row (fun _ _ => undef) hc hm (by simp) (fun h => absurd h (Nat.lt_irrefl 0)) (fun i j d hd => by simp [cellAt] at hd)

/-! ### Ways down -/
def subD : D → List (Nat × Nat) → Option D
  | d, [] => some d
  | .row false _ es, (i, j) :: p => (cellAt es i j).bind (subD · p)
  | _, _ :: _ => none

def setCellAt (es : List (List D)) (i j : Nat) (d : D) : List (List D) := es.set i ((es.getD i []).set j d)

def setD : D → List (Nat × Nat) → D → D
  | _, [], d1 => d1
  | .row sh e es, (i, j) :: p, d1 => .row sh e (setCellAt es i j (setD ((cellAt es i j).getD .dead) p d1))
  | d, _ :: _, _ => d

theorem cellAt_setCellAt {es : List (List D)} {i j i' j' : Nat} {d d0 : D} (h0 : cellAt es i j = some d0) :
    cellAt (setCellAt es i j d) i' j' = if i = i' ∧ j = j' then some d else cellAt es i' j' := by
  have hi := cellAt_lt h0
  unfold cellAt at h0 ⊢
  unfold setCellAt
  rw [List.getElem?_eq_getElem hi] at h0
  simp only [Option.bind_some] at h0
  have hj : j < (es[i]).length := (List.getElem?_eq_some_iff.1 h0).1
  by_cases e1 : i = i'
  · subst e1
    rw [List.getElem?_set_self hi]
    simp only [Option.bind_some, List.getD, List.getElem?_eq_getElem hi, Option.getD_some]
    by_cases e2 : j = j'
    · subst e2
      rw [List.getElem?_set_self hj]; simp
    · rw [List.getElem?_set_ne e2]; simp [e2]
  · rw [List.getElem?_set_ne e1]; simp [e1]

theorem len_setCellAt {es : List (List D)} {i j n : Nat} {d : D} (hsz : ∀ l ∈ es, l.length = n) : ∀ l ∈ setCellAt es i j d, l.length = n := by
  intro l hl
  unfold setCellAt at hl
  rcases List.mem_or_eq_of_mem_set hl with h | h
  · exact hsz l h
  · subst h
    by_cases hi : i < es.length
    · rw [List.length_set, List.getD, List.getElem?_eq_getElem hi]; exact hsz _ (List.getElem_mem hi)
    · rw [List.set_eq_of_length_le (by omega)] at hl
      exact hsz _ hl

@[simp] theorem length_setCellAt {es : List (List D)} {i j : Nat} {d : D} : (setCellAt es i j d).length = es.length := by simp [setCellAt]

/-- A value met on a way down. -/
inductive Nav (P : Program) (w : World) : D → Value → List (Nat × Nat) → D → Value → Prop
  | nil {d : D} {v : Value} : Nav P w d v [] d v
  | cons {e : TypeId} {es : List (List D)} {ad : Addr} {l c i j : Nat} {d1 d2 : D} {v1 v2 : Value} {p : List (Nat × Nat)} (hc : cellAt es i j = some d1)
      (hw : w.cell? ⟨ad.block, ad.off + (i * szT P e + j), none⟩ = some v1) (hn : Nav P w d1 v1 p d2 v2) : Nav P w (.row false e es) (.slice (some ad) l c) ((i, j) :: p) d2 v2

theorem Nav.move (h : Nav P w d v p d2 v2) (hw : ∀ a u, w.cell? a = some u → w1.cell? a = some u) : Nav P w1 d v p d2 v2 := by
  induction h with
  | nil => exact .nil
  | cons hc hw' hn ih => exact .cons hc (hw _ _ hw') ih

theorem Nav.fn {d : D} {v : Value} {p : List (Nat × Nat)} {d2 d3 : D} {v2 v3 : Value} (h : Nav P w d v p d2 v2) (h' : Nav P w d v p d3 v3) : d2 = d3 ∧ v2 = v3 := by
  induction h generalizing d3 v3 with
  | nil => cases h'; exact ⟨rfl, rfl⟩
  | cons hc hw hn ih =>
    cases h' with
    | cons hc' hw' hn' =>
      rw [hc] at hc'; cases hc'
      rw [hw] at hw'; cases hw'
      exact ih hn'

/-- From a row of one's own down to a row within; and up again, when that one has turned. -/
theorem Ow.focus {p : List (Nat × Nat)} : ∀ {d : D} {v : Value} {F : Nat → Prop} {d' : D}, Ow P w S d v F → subD d p = some d' → ∃ v' F', Nav P w d v p d' v' ∧ Ow P w S d' v' F' ∧ (∀ k, F' k → F k) ∧
    ∀ w1 d1 F1, (∀ k, S k → w1.heap[k]? = w.heap[k]?) → (∀ k, F k → ¬ F' k → w1.heap[k]? = w.heap[k]?) → Ow P w1 S d1 v' F1 → (∀ k, F1 k → F k → F' k) →
      Ow P w1 S (setD d p d1) v (fun k => (F k ∧ ¬ F' k) ∨ F1 k) := by
  induction p with
  | nil =>
    intro d v F d' h hs
    simp only [subD, Option.some.injEq] at hs
    subst hs
    refine ⟨v, F, .nil, h, fun _ hk => hk, fun w1 d1 F1 _ _ h1 hF1 => ?_⟩
    simp only [setD]
    exact h1.congr fun k => ⟨Or.inr, fun hk => hk.elim (fun h => absurd h.1 h.2) id⟩
  | cons ij p ih =>
    obtain ⟨i, j⟩ := ij
    intro d v F d' h hs
    cases h with
    | dead => simp [subD] at hs
    | sc => simp [subD] at hs
    | shared => simp [subD] at hs
    | @row e es v xs G own hsz h1 hx dis nb =>
      simp only [subD, Option.bind_eq_some_iff] at hs
      obtain ⟨dm, hc, hs⟩ := hs
      obtain ⟨v', F', hnav, how, hsub, hup⟩ := ih (hx i j dm hc) hs
      have hlt := off_lt (cellAt_lt hc) (cellAt_len hc hsz)
      obtain ⟨g, cap, rfl, hcc, hm, hcell, hfz⟩ := ownsRow_cell own (by have := cellAt_lt hc; omega)
      have hxl := own.1
      refine ⟨v', F', .cons (ad := ⟨g, 0, none⟩) hc (by simp only [Nat.zero_add]; rw [hcell _ hlt]; exact getD_of_lt (by rw [hxl]; exact hlt)) hnav, how, fun k hk => Or.inr ⟨i, j, dm, hc, hsub k hk⟩, ?_⟩
      intro w1 d1 F1 hS hF ho hF1
      have hg' : ∀ i' j' d' k, cellAt es i' j' = some d' → G i' j' k → F' k → i' = i ∧ j' = j := fun i' j' d' k hd' hk hk' => dis i' j' i j d' dm k hd' hc hk (hsub k hk')
      have hgb : ∀ k, F' k → Value.ownBlock (.slice (some ⟨g, 0, none⟩) es.length cap) ≠ some k := fun k hk => nb i j dm k hc (hsub k hk)
      have hin := hup w1 d1 F1 hS (fun k hk hk' => hF k (Or.inr ⟨i, j, dm, hc, hk⟩) hk') ho (fun k hk hk' => hF1 k hk (Or.inr ⟨i, j, dm, hc, hk'⟩))
      simp only [setD, hc, Option.getD_some]
      let G1 : Nat → Nat → Nat → Prop := fun i' j' k => if i = i' ∧ j = j' then ((G i j k ∧ ¬ F' k) ∨ F1 k) else G i' j' k
      have hblock : w1.heap[g]? = w.heap[g]? := hF g (Or.inl rfl) (fun hk => hgb g hk rfl)
      have key : Ow P w1 S (.row false e (setCellAt es i j (setD dm p d1))) (.slice (some ⟨g, 0, none⟩) es.length cap)
          (fun k => Value.ownBlock (.slice (some ⟨g, 0, none⟩) es.length cap) = some k ∨ ∃ i' j' d', cellAt (setCellAt es i j (setD dm p d1)) i' j' = some d' ∧ G1 i' j' k) := by
        refine .row xs G1 ?_ (len_setCellAt hsz) h1 ?_ ?_ ?_
        · rw [length_setCellAt]
          exact ownsRow_move own (fun k hk => by simp only [Value.ownBlock, Option.some.injEq] at hk; subst hk; exact hblock)
        · intro i' j' d'' hd''
          rw [cellAt_setCellAt hc] at hd''
          by_cases hij : i = i' ∧ j = j'
          · rw [if_pos hij] at hd''
            obtain ⟨rfl, rfl⟩ := hij
            cases hd''
            exact hin.congr fun k => by simp only [G1]; rw [if_pos ⟨trivial, trivial⟩]
          · rw [if_neg hij] at hd''
            refine ((hx i' j' d'' hd'').move (fun k hk => hF k (Or.inr ⟨i', j', d'', hd'', hk⟩) (fun hk' => ?_)) hS).congr fun k => by simp only [G1]; rw [if_neg hij]
            obtain ⟨e1, e2⟩ := hg' i' j' d'' k hd'' hk hk'
            exact hij ⟨e1.symm, e2.symm⟩
        · intro i1 j1 i2 j2 da db k hd1 hd2 hk1 hk2
          rw [cellAt_setCellAt hc] at hd1 hd2
          simp only [G1] at hk1 hk2
          have in1 : ∀ i' j' d'', cellAt es i' j' = some d'' → ¬ (i = i' ∧ j = j') → G i' j' k → ((G i j k ∧ ¬ F' k) ∨ F1 k) → False := by
            intro i' j' d'' hd'' hne hk hor
            rcases hor with ⟨ha, _⟩ | ha
            · obtain ⟨e1, e2⟩ := dis i' j' i j d'' dm k hd'' hc hk ha
              exact hne ⟨e1.symm, e2.symm⟩
            · obtain ⟨e1, e2⟩ := hg' i' j' d'' k hd'' hk (hF1 k ha (Or.inr ⟨i', j', d'', hd'', hk⟩))
              exact hne ⟨e1.symm, e2.symm⟩
          by_cases c1 : i = i1 ∧ j = j1 <;> by_cases c2 : i = i2 ∧ j = j2
          · obtain ⟨rfl, rfl⟩ := c1; obtain ⟨rfl, rfl⟩ := c2; exact ⟨rfl, rfl⟩
          · rw [if_pos c1] at hk1; rw [if_neg c2] at hk2 hd2
            exact (in1 i2 j2 db hd2 c2 hk2 hk1).elim
          · rw [if_neg c1] at hk1 hd1; rw [if_pos c2] at hk2
            exact (in1 i1 j1 da hd1 c1 hk1 hk2).elim
          · rw [if_neg c1] at hk1 hd1; rw [if_neg c2] at hk2 hd2
            exact dis i1 j1 i2 j2 da db k hd1 hd2 hk1 hk2
        · intro i' j' d'' k hd'' hk
          rw [cellAt_setCellAt hc] at hd''
          simp only [G1] at hk
          by_cases c1 : i = i' ∧ j = j'
          · rw [if_pos c1] at hk
            rcases hk with ⟨hk, _⟩ | hk
            · exact nb i j dm k hc hk
            · exact fun hg => hgb k (hF1 k hk (Or.inl hg)) hg
          · rw [if_neg c1] at hk hd''
            exact nb i' j' d'' k hd'' hk
      refine key.congr fun k => ⟨?_, ?_⟩
      · rintro (hk | ⟨i', j', d'', hd'', hk⟩)
        · exact Or.inl ⟨Or.inl hk, fun hk' => hgb k hk' hk⟩
        · rw [cellAt_setCellAt hc] at hd''
          simp only [G1] at hk
          by_cases c1 : i = i' ∧ j = j'
          · rw [if_pos c1] at hk
            rcases hk with ⟨ha, hb⟩ | ha
            · exact Or.inl ⟨Or.inr ⟨i, j, dm, hc, ha⟩, hb⟩
            · exact Or.inr ha
          · rw [if_neg c1] at hk hd''
            refine Or.inl ⟨Or.inr ⟨i', j', d'', hd'', hk⟩, fun hk' => ?_⟩
            obtain ⟨e1, e2⟩ := hg' i' j' d'' k hd'' hk hk'
            exact c1 ⟨e1.symm, e2.symm⟩
      · rintro (⟨hk | ⟨i', j', d'', hd'', hk⟩, hn⟩ | hk)
        · exact Or.inl hk
        · by_cases c1 : i = i' ∧ j = j'
          · obtain ⟨rfl, rfl⟩ := c1
            refine Or.inr ⟨i, j, setD dm p d1, ?_, ?_⟩
            · rw [cellAt_setCellAt hc, if_pos ⟨rfl, rfl⟩]
            · simp only [G1]; rw [if_pos ⟨trivial, trivial⟩]; exact Or.inl ⟨hk, hn⟩
          · refine Or.inr ⟨i', j', d'', ?_, ?_⟩
            · rw [cellAt_setCellAt hc, if_neg c1]; exact hd''
            · simp only [G1]; rw [if_neg c1]; exact hk
        · refine Or.inr ⟨i, j, setD dm p d1, ?_, ?_⟩
          · rw [cellAt_setCellAt hc, if_pos ⟨rfl, rfl⟩]
          · simp only [G1]; rw [if_pos ⟨trivial, trivial⟩]; exact Or.inr hk
end
end Go.Proofs.Ytldniggehdpheaa.AW

namespace Go.Proofs.Ytldniggehdpheaa.AW
open Go.RowKit

/-- What is known of a slot. -/
inductive V where
  | dead
  | und
  | sc (v : Value)
  | nil (e : TypeId)
  | imm (e : TypeId) (es : List (List D))
  | ref (o : Nat) (p : List (Nat × Nat)) (n : Nat)
  | bp (o : Nat) (j : Nat)
  | rp (o : Nat) (p : List (Nat × Nat)) (i j : Nat)
  | ip (ch : List D) (j : Nat)
  | clo (f : FuncId) (chs : List (List D))
  | agg (vs : List V)
  | tup (vs : List V)
  | cond (c : Bool) (v : V)

/-- An object of one's own: a row, or a variable's cells. -/
inductive Ob where
  | row (e : TypeId) (es : List (List D))
  | box (cs : List D)

def look {α : Type} (l : List (Nat × α)) (k : Nat) : Option α :=
  match l with
  | [] => none
  | (k', x) :: r => if k = k' then some x else look r k

structure St where
  nt : Nat
  tm : List (Nat × V)
  ob : List (Nat × Ob)

def St.get (st : St) (t : Nat) : V := (look st.tm t).getD .dead
def St.set (st : St) (t : Nat) (v : V) : St := { st with tm := (t, v) :: st.tm }
def St.put (st : St) (o : Nat) (b : Ob) : St := { st with ob := (o, b) :: st.ob }
/-- An object is there no more. -/
def drop {α : Type} : List (Nat × α) → Nat → List (Nat × α)
  | [], _ => []
  | (k', x) :: r, k => if k = k' then drop r k else (k', x) :: drop r k
def St.del (st : St) (o : Nat) : St := { st with ob := drop st.ob o }

mutual
/-- What leads to an object is not known any more. -/
def killV (k : Nat) : V → V
  | .ref o p n => if o = k then .dead else .ref o p n
  | .bp o j => if o = k then .dead else .bp o j
  | .rp o p i j => if o = k then .dead else .rp o p i j
  | .agg vs => .agg (killL k vs)
  | .tup vs => .tup (killL k vs)
  | .cond c v => .cond c (killV k v)
  | v => v
def killL (k : Nat) : List V → List V
  | [] => []
  | v :: r => killV k v :: killL k r
end
mutual
/-- .. or only what leads into the rows within it. -/
def killN (k : Nat) : V → V
  | .ref o (x :: p) n => if o = k then .dead else .ref o (x :: p) n
  | .rp o (x :: p) i j => if o = k then .dead else .rp o (x :: p) i j
  | .agg vs => .agg (killNL k vs)
  | .tup vs => .tup (killNL k vs)
  | .cond c v => .cond c (killN k v)
  | v => v
def killNL (k : Nat) : List V → List V
  | [] => []
  | v :: r => killN k v :: killNL k r
end
def mapT (f : V → V) : List (Nat × V) → List (Nat × V)
  | [] => []
  | (t, v) :: r => (t, f v) :: mapT f r
theorem look_mapT (f : V → V) (l : List (Nat × V)) (t : Nat) : look (mapT f l) t = (look l t).map f := by
  induction l with
  | nil => rfl
  | cons x r ih =>
    obtain ⟨k, v⟩ := x
    simp only [mapT, look]
    by_cases h : t = k
    · simp [h]
    · simp [h, ih]
def St.kill (st : St) (o : Nat) : St := { st with tm := mapT (killV o) st.tm, ob := drop st.ob o }

theorem look_drop {α : Type} (l : List (Nat × α)) (k k' : Nat) : look (drop l k) k' = if k = k' then none else look l k' := by
  induction l with
  | nil => simp [drop, look]
  | cons x r ih =>
    obtain ⟨q, y⟩ := x
    simp only [drop]
    by_cases h : k = q
    · subst h
      rw [if_pos rfl, ih]
      by_cases h2 : k = k'
      · rw [if_pos h2, if_pos h2]
      · rw [if_neg h2, if_neg h2, look, if_neg (fun e => h2 e.symm)]
    · rw [if_neg h]
      simp only [look]
      by_cases h2 : k' = q
      · subst h2; rw [if_pos rfl, if_pos rfl, if_neg h]
      · rw [if_neg h2, if_neg h2, ih]

/-- What is hidden: where things lie. -/
structure Gh where
  S : Nat → Prop
  hv : Nat → Value
  bb : Nat → Nat
  bo : Nat → Nat
  F : Nat → Nat → Prop

/-- An object as it lies in memory. -/
inductive ObR (P : Program) (w : World) (gh : Gh) (o : Nat) : Ob → Prop
  | row {e : TypeId} {es : List (List D)} (h : Ow P w gh.S (.row false e es) (gh.hv o) (gh.F o)) : ObR P w gh o (.row e es)
  | box {cs : List D} (xs : List Value) (G : Nat → Nat → Prop) (hb : ∃ cur ty, w.heap[gh.bb o]? = some (.cells cur ty (0, 0))) (hl : xs.length = cs.length) (h1 : ∀ u ∈ xs, u.oneCell' = true)
      (hc : ∀ j, j < xs.length → w.cell? ⟨gh.bb o, gh.bo o + j, none⟩ = xs[j]?) (hx : ∀ j d, cs[j]? = some d → Ow P w gh.S d (xs.getD j undef) (G j))
      (dis : ∀ j j' d d' k, cs[j]? = some d → cs[j']? = some d' → G j k → G j' k → j = j') (nb : ∀ j d k, cs[j]? = some d → G j k → k ≠ gh.bb o)
      (hF : ∀ k, gh.F o k ↔ k = gh.bb o ∨ ∃ j d, cs[j]? = some d ∧ G j k) : ObR P w gh o (.box cs)

def subO : Ob → List (Nat × Nat) → Option D
  | .row e es, p => subD (.row false e es) p
  | .box _, [] => none
  | .box cs, (_, j) :: p => (cs[j]?).bind (subD · p)

def setO : Ob → List (Nat × Nat) → D → Ob
  | .row e es, p, d => match setD (.row false e es) p d with
    | .row _ e' es' => .row e' es'
    | _ => .row e es
  | .box cs, [], _ => .box cs
  | .box cs, (_, j) :: p, d => .box (cs.set j (setD (cs.getD j .dead) p d))

/-- A value met on a way down from an object. -/
def NavO (P : Program) (w : World) (gh : Gh) (o : Nat) : Ob → List (Nat × Nat) → D → Value → Prop
  | .row e es, p, d, v => Nav P w (.row false e es) (gh.hv o) p d v
  | .box _, [], _, _ => False
  | .box cs, (_, j) :: p, d, v => ∃ d1 v1, cs[j]? = some d1 ∧ w.cell? ⟨gh.bb o, gh.bo o + j, none⟩ = some v1 ∧ Nav P w d1 v1 p d v

/-- What a function value has taken along: pointers to variables that stand still. -/
def CloR (P : Program) (w : World) (S : Nat → Prop) (chs : List (List D)) (us : Array Value) : Prop :=
  us.size = chs.length ∧ ∀ i ch, chs[i]? = some ch → ∃ (b f : Nat) (U : Nat → Value), us.getD i undef = .pointer (some ⟨b, f, none⟩) ∧ S b ∧ ∀ q d, ch[q]? = some d → w.cell? ⟨b, f + q, none⟩ = some (U q) ∧ Ro P w S d (U q)
theorem CloR.move {P : Program} {w w1 : World} {S S' : Nat → Prop} {chs : List (List D)} {us : Array Value} (h : CloR P w S chs us) (hS : ∀ k, S k → w1.heap[k]? = w.heap[k]?) (hSS : ∀ k, S k → S' k) : CloR P w1 S' chs us :=
  ⟨h.1, fun i ch hi => by
    obtain ⟨b, f, U, h1, h2, h3⟩ := h.2 i ch hi
    exact ⟨b, f, U, h1, hSS _ h2, fun q d hd => ⟨(World.cell?_of_block (a := ⟨b, _, none⟩) (hS _ h2)).trans (h3 q d hd).1, ((h3 q d hd).2.move hS).mono hSS⟩⟩⟩
theorem CloR.same {P : Program} {w : World} {S S' : Nat → Prop} {chs : List (List D)} {us : Array Value} (h : CloR P w S chs us) (hSS : ∀ k, S k → S' k) : CloR P w S' chs us := h.move (fun _ _ => rfl) hSS

/-- A slot's value is as is known. -/
inductive VR (P : Program) (w : World) (gh : Gh) (ob : List (Nat × Ob)) : V → Value → Prop
  | dead {u : Value} : VR P w gh ob .dead u
  | und : VR P w gh ob .und undef
  | sc {v : Value} (h : v.oneCell' = true) : VR P w gh ob (.sc v) v
  | nil {e : TypeId} : VR P w gh ob (.nil e) (.slice none 0 0)
  | imm {e : TypeId} {es : List (List D)} {u : Value} (h : Ro P w gh.S (.row true e es) u) : VR P w gh ob (.imm e es) u
  | ref {o n : Nat} {p : List (Nat × Nat)} {x : Ob} {e : TypeId} {es : List (List D)} {A : Option Addr} {c : Nat} (hx : look ob o = some x) (hn : NavO P w gh o x p (.row false e es) (.slice A es.length c)) (hle : n ≤ es.length) :
      VR P w gh ob (.ref o p n) (.slice A n c)
  | bp {o j : Nat} {cs : List D} (hx : look ob o = some (.box cs)) : VR P w gh ob (.bp o j) (.pointer (some ⟨gh.bb o, gh.bo o + j, none⟩))
  | rp {o i j : Nat} {p : List (Nat × Nat)} {x : Ob} {e : TypeId} {es : List (List D)} {ad : Addr} {c : Nat} (hx : look ob o = some x) (hn : NavO P w gh o x p (.row false e es) (.slice (some ad) es.length c)) :
      VR P w gh ob (.rp o p i j) (.pointer (some ⟨ad.block, ad.off + (i * szT P e + j), none⟩))
  | ip {ch : List D} {j b f : Nat} (U : Nat → Value) (hs : gh.S b) (h : ∀ q d, ch[q]? = some d → w.cell? ⟨b, f + q, none⟩ = some (U q) ∧ Ro P w gh.S d (U q)) : VR P w gh ob (.ip ch j) (.pointer (some ⟨b, f + j, none⟩))
  | clo {f : FuncId} {chs : List (List D)} {us : Array Value} (h : CloR P w gh.S chs us) : VR P w gh ob (.clo f chs) (.func (.func f) #[] us)
  | agg {vs : List V} {us : Array Value} (hl : us.size = vs.length) (h1 : ∀ u ∈ us, u.oneCell' = true) (h : ∀ i v, vs[i]? = some v → VR P w gh ob v (us.getD i undef)) : VR P w gh ob (.agg vs) (.agg us)
  | tup {vs : List V} {us : Array Value} (hl : us.size = vs.length) (h : ∀ i v, vs[i]? = some v → VR P w gh ob v (us.getD i undef)) : VR P w gh ob (.tup vs) (.tuple us)
  | cond {c : Bool} {v : V} {u : Value} (ht : c = true → VR P w gh ob v u) (hf : c = false → u = undef) : VR P w gh ob (.cond c v) u

/-- w0: the world in which the call began; may: what it may write there; pin: objects that lie where they lay. -/
structure Cx where
  w0 : World
  s0 : Nat → Prop
  may : Nat → Nat → Prop
  pin : Nat → Option (Value × Nat × Nat)
  z : Nat → Prop

/-- All that is known. X: blocks that are held in hand. -/
structure Rep (P : Program) (C : Cx) (X : Nat → Prop) (st : St) (a : Act) (w : World) (gh : Gh) : Prop where
  obs : ∀ o b, look st.ob o = some b → ObR P w gh o b
  dis : ∀ o o' b b' k, look st.ob o = some b → look st.ob o' = some b' → gh.F o k → gh.F o' k → o = o'
  sS : ∀ k, gh.S k → k < w.heap.size
  nS : ∀ o b k, look st.ob o = some b → gh.F o k → ¬ gh.S k
  wrR : ∀ o e es k, look st.ob o = some (.row e es) → gh.F o k → C.w0.heap.size ≤ k ∨ ∀ f, C.may k f
  wrB : ∀ o cs k, look st.ob o = some (.box cs) → gh.F o k → k ≠ gh.bb o → C.w0.heap.size ≤ k ∨ ∀ f, C.may k f
  wrC : ∀ o cs j, look st.ob o = some (.box cs) → j < cs.length → C.w0.heap.size ≤ gh.bb o ∨ C.may (gh.bb o) (gh.bo o + j)
  kept : C.w0.keptBut w (fun p => ∃ b f, p = .cell b f ∧ C.may b f)
  pins : ∀ o x, C.pin o = some x → look st.ob o ≠ none → (gh.hv o, gh.bb o, gh.bo o) = x
  tms : ∀ t, VR P w gh st.ob (st.get t) (a.tmps.getD t undef)
  nt : st.nt ≤ a.tmps.size
  dfs : a.defers = []
  xl : ∀ k, X k → k < w.heap.size
  xS : ∀ k, X k → ¬ gh.S k
  xF : ∀ o b k, look st.ob o = some b → X k → ¬ gh.F o k
  xW : ∀ k, X k → C.w0.heap.size ≤ k ∨ ∀ f, C.may k f
  s0S : ∀ k, C.s0 k → gh.S k
  sZ : ∀ k, gh.S k → C.z k

section
variable {P : Program} {w w1 : World} {C : Cx} {X : Nat → Prop} {gh : Gh} {st : St} {a : Act} {v : V} {u : Value} {ob : List (Nat × Ob)}

theorem NavO.move {o : Nat} {b : Ob} {p : List (Nat × Nat)} {d : D} (h : NavO P w gh o b p d u) (hw : ∀ x y, w.cell? x = some y → w1.cell? x = some y) : NavO P w1 gh o b p d u := by
  unfold NavO at h ⊢
  split
  · exact Nav.move h hw
  · exact h
  · obtain ⟨d1, v1, h1, h2, h3⟩ := h
    exact ⟨d1, v1, h1, hw _ _ h2, h3.move hw⟩

/-- A slot's value stands where all cells that were there stand. -/
theorem VR.cells (h : VR P w gh ob v u) (hw : ∀ x y, w.cell? x = some y → w1.cell? x = some y) (hS : ∀ k, gh.S k → w1.heap[k]? = w.heap[k]?) : VR P w1 gh ob v u := by
  induction h with
  | dead => exact .dead
  | und => exact .und
  | sc h => exact .sc h
  | nil => exact .nil
  | imm h => exact .imm (h.move hS)
  | ref hx hn hle => exact .ref hx (hn.move hw) hle
  | bp hx => exact .bp hx
  | rp hx hn => exact .rp hx (hn.move hw)
  | ip U hs h => exact .ip U hs fun q d hd => ⟨hw _ _ (h q d hd).1, (h q d hd).2.move hS⟩
  | clo h => exact .clo (h.move hS (fun _ hk => hk))
  | agg hl h1 h ih => exact .agg hl h1 ih
  | tup hl h ih => exact .tup hl ih
  | cond ht hf ih => exact .cond ih hf

theorem look_cons_self {α : Type} (l : List (Nat × α)) (k : Nat) (x : α) : look ((k, x) :: l) k = some x := by simp [look]
theorem look_cons_ne {α : Type} (l : List (Nat × α)) {k k' : Nat} (x : α) (h : k' ≠ k) : look ((k, x) :: l) k' = look l k' := by simp [look, h]

theorem St.get_set (st : St) (t t' : Nat) (v : V) : (st.set t v).get t' = if t' = t then v else st.get t' := by
  unfold St.get St.set
  by_cases h : t' = t <;> simp [h, look]

theorem tmps_put {a : Act} {d t : Nat} {u : Value} (hd : d < a.tmps.size) : (a.put (some d) u).tmps.getD t undef = if t = d then u else a.tmps.getD t undef := by
  unfold Act.put
  by_cases h : t = d
  · subst h; simp [Array.getD, hd]
  · rw [if_neg h]; simp only [Array.getD, Array.size_setIfInBounds]
    split
    · rename_i ht; simp only [Array.getInternal_eq_getElem]; rw [Array.getElem_setIfInBounds_ne]; exact fun e => h e.symm
    · rfl

/-- A slot gets a value; memory stands. -/
theorem Rep.set (h : Rep P C X st a w gh) {d : Nat} (hd : d < st.nt) (hv : VR P w gh st.ob v u) : Rep P C X (st.set d v) (a.put (some d) u) w gh where
  obs := h.obs
  dis := h.dis
  sS := h.sS
  nS := h.nS
  wrR := h.wrR
  wrB := h.wrB
  wrC := h.wrC
  kept := h.kept
  pins := h.pins
  tms := by
    intro t
    rw [tmps_put (Nat.lt_of_lt_of_le hd h.nt), St.get_set]
    by_cases e : t = d
    · rw [if_pos e, if_pos e]; exact hv
    · rw [if_neg e, if_neg e]; exact h.tms t
  nt := by
    have := h.nt
    simp only [Act.put, Array.size_setIfInBounds]; exact this
  dfs := h.dfs
  xl := h.xl
  xS := h.xS
  xF := h.xF
  xW := h.xW
  s0S := h.s0S
  sZ := h.sZ
end
end Go.Proofs.Ytldniggehdpheaa.AW

namespace Go.Proofs.Ytldniggehdpheaa.AW
open Go.RowKit

def V.str : V → V
  | .cond _ v => v.str
  | v => v
def V.ok : V → Prop
  | .cond c v => c = true ∧ v.ok
  | _ => True

section
variable {P : Program} {w w1 : World} {C : Cx} {X : Nat → Prop} {gh : Gh} {st : St} {a : Act} {v : V} {u : Value} {ob : List (Nat × Ob)}

theorem VR.use (h : VR P w gh ob v u) (hk : v.ok) : VR P w gh ob v.str u := by
  induction h with
  | cond ht hf ih =>
    obtain ⟨h1, h2⟩ := hk
    exact ih h1 h2
  | dead => exact .dead
  | und => exact .und
  | sc h => exact .sc h
  | nil => exact .nil
  | imm h => exact .imm h
  | ref hx hn hle => exact .ref hx hn hle
  | bp hx => exact .bp hx
  | rp hx hn => exact .rp hx hn
  | ip U hs h => exact .ip U hs h
  | clo h => exact .clo h
  | agg hl h1 h => exact .agg hl h1 h
  | tup hl h => exact .tup hl h

def constV : Value → V
  | .agg cs => if cs.all (·.oneCell') then .agg (cs.toList.map .sc) else .dead
  | .tuple _ => .dead
  | v => .sc v

def St.ev (st : St) : Operand → V
  | .tmp t => st.get t
  | .const v => constV v
  | .global _ => .dead
  | .func f => .sc (.func (.func f) #[] #[])

theorem constV_VR (v : Value) : VR P w gh ob (constV v) v := by
  unfold constV
  split
  · rename_i cs
    split
    · rename_i h
      refine .agg (by simp) (fun u hu => (Array.all_eq_true_iff_forall_mem.1 h) u hu) (fun i v hv => ?_)
      simp only [List.getElem?_map, Option.map_eq_some_iff, Array.getElem?_toList] at hv
      obtain ⟨x, hx, rfl⟩ := hv
      have : cs.getD i undef = x := by
        obtain ⟨hi, rfl⟩ := Array.getElem?_eq_some_iff.1 hx
        simp [Array.getD, hi]
      rw [this]
      exact .sc ((Array.all_eq_true_iff_forall_mem.1 h) x (Array.mem_of_getElem? hx))
    · exact .dead
  · exact .dead
  · rename_i h1 h2
    refine .sc ?_
    cases v <;> first | rfl | (exact absurd rfl (h1 _)) | (exact absurd rfl (h2 _))

theorem Rep.ev (h : Rep P C X st a w gh) (x : Operand) : VR P w gh st.ob (st.ev x) (a.eval x) := by
  cases x with
  | tmp t => exact h.tms t
  | const v => exact constV_VR v
  | global g => exact .dead
  | func f => exact .sc rfl

theorem Rep.use (h : Rep P C X st a w gh) (x : Operand) (hk : (st.ev x).ok) : VR P w gh st.ob (st.ev x).str (a.eval x) := (h.ev x).use hk

/-! ### Places -/
def cellV (o : Nat) (p : List (Nat × Nat)) (i j : Nat) : D → V
  | .sc v => .sc v
  | .row true e es => .imm e es
  | .row false _ es => .ref o (p ++ [(i, j)]) es.length
  | .dead => .dead
def cellI : D → V
  | .sc v => .sc v
  | .row _ e es => .imm e es
  | .dead => .dead

/-- What lies q cells behind a pointer. -/
def rdD (st : St) : V → Nat → Option V
  | .bp o j, q => match look st.ob o with
    | some (.box cs) => (cs[j + q]?).map (cellV o [] 0 (j + q))
    | _ => none
  | .rp o p i j, q => match (look st.ob o).bind (subO · p) with
    | some (.row false _ es) => (cellAt es i (j + q)).map (cellV o p i (j + q))
    | _ => none
  | .ip ch j, q => (ch[j + q]?).map cellI
  | _, _ => none

theorem Nav.snoc {d d1 : D} {v v1 : Value} {p : List (Nat × Nat)} {e : TypeId} {es : List (List D)} {ad : Addr} {l c i j : Nat} (h : Nav P w d v p (.row false e es) (.slice (some ad) l c)) (hc : cellAt es i j = some d1)
    (hw : w.cell? ⟨ad.block, ad.off + (i * szT P e + j), none⟩ = some v1) : Nav P w d v (p ++ [(i, j)]) d1 v1 := by
  generalize hd : D.row false e es = d' at h
  generalize hv : Value.slice (some ad) l c = v' at h
  induction h with
  | nil => subst hd; subst hv; exact .cons hc hw .nil
  | cons hc' hw' hn ih => exact .cons hc' hw' (ih hd hv)

theorem NavO.snoc {o : Nat} {x : Ob} {d1 : D} {v1 : Value} {p : List (Nat × Nat)} {e : TypeId} {es : List (List D)} {ad : Addr} {l c i j : Nat} (h : NavO P w gh o x p (.row false e es) (.slice (some ad) l c)) (hc : cellAt es i j = some d1)
    (hw : w.cell? ⟨ad.block, ad.off + (i * szT P e + j), none⟩ = some v1) : NavO P w gh o x (p ++ [(i, j)]) d1 v1 := by
  unfold NavO at h ⊢
  split at h
  · exact h.snoc hc hw
  · exact h.elim
  · obtain ⟨d0, v0, h1, h2, h3⟩ := h
    exact ⟨d0, v0, h1, h2, h3.snoc hc hw⟩

/-- Down from an object to a row within, and up again. -/
theorem ObR.focus {o : Nat} {x : Ob} {p : List (Nat × Nat)} {e : TypeId} {es : List (List D)} (h : ObR P w gh o x) (hs : subO x p = some (.row false e es)) :
    ∃ v' F', NavO P w gh o x p (.row false e es) v' ∧ Ow P w gh.S (.row false e es) v' F' ∧ (∀ k, F' k → gh.F o k) := by
  cases h with
  | @row e0 es0 h =>
    obtain ⟨v', F', h1, h2, h3, _⟩ := h.focus (p := p) hs
    exact ⟨v', F', h1, h2, h3⟩
  | @box cs xs G hb hl h1 hc hx dis nb hF =>
    cases p with
    | nil => simp [subO] at hs
    | cons ij p =>
      obtain ⟨i, j⟩ := ij
      simp only [subO, Option.bind_eq_some_iff] at hs
      obtain ⟨d, hd, hs⟩ := hs
      obtain ⟨v', F', h1', h2', h3', _⟩ := (hx j d hd).focus hs
      have hj : j < xs.length := by rw [hl]; exact (List.getElem?_eq_some_iff.1 hd).1
      exact ⟨v', F', ⟨d, _, hd, (hc j hj).trans (getD_of_lt hj), h1'⟩, h2', fun k hk => (hF k).2 (Or.inr ⟨j, d, hd, h3' k hk⟩)⟩

theorem Nav.sub {d d2 : D} {v v2 : Value} {p : List (Nat × Nat)} (h : Nav P w d v p d2 v2) : subD d p = some d2 := by
  induction h with
  | nil => rfl
  | cons hc hw hn ih => simp only [subD, hc, Option.bind_some]; exact ih

theorem NavO.sub {o : Nat} {x : Ob} {p : List (Nat × Nat)} {d2 : D} {v2 : Value} (h : NavO P w gh o x p d2 v2) : subO x p = some d2 := by
  unfold NavO at h
  split at h
  · exact h.sub
  · exact h.elim
  · obtain ⟨d0, v0, h1, h2, h3⟩ := h
    simp only [subO, h1, Option.bind_some]; exact h3.sub

theorem NavO.fn {o : Nat} {x : Ob} {p : List (Nat × Nat)} {d2 d3 : D} {v2 v3 : Value} (h : NavO P w gh o x p d2 v2) (h' : NavO P w gh o x p d3 v3) : d2 = d3 ∧ v2 = v3 := by
  unfold NavO at h h'
  split at h
  · exact h.fn h'
  · exact h.elim
  · obtain ⟨d0, v0, h1, h2, h3⟩ := h
    obtain ⟨d0', v0', h1', h2', h3'⟩ := h'
    rw [h1] at h1'; cases h1'
    rw [h2] at h2'; cases h2'
    exact h3.fn h3'

theorem cellV_VR {o : Nat} {x : Ob} {p : List (Nat × Nat)} {i j : Nat} {d : D} {F : Nat → Prop} (hx : look ob o = some x) (hw : Ow P w gh.S d u F) (hn : NavO P w gh o x (p ++ [(i, j)]) d u) : VR P w gh ob (cellV o p i j d) u := by
  cases hw with
  | dead h => exact .dead
  | sc h => exact .sc h
  | shared h => exact .imm h
  | @row e es _ xs G own hsz h1 hx' dis nb =>
    simp only [cellV]
    rcases own.2 with ⟨rfl, h0⟩ | ⟨g, cap, cur, rfl, _⟩
    · rw [h0]
      have := VR.ref (n := 0) hx (A := none) (c := 0) (by rw [h0]; exact hn) (Nat.zero_le _)
      exact this
    · exact .ref hx hn (Nat.le_refl _)

theorem cellI_VR {d : D} (h : Ro P w gh.S d u) : VR P w gh ob (cellI d) u := by
  cases h with
  | dead h => exact .dead
  | sc h => exact .sc h
  | row U hl hm hsz hA hU => exact .imm (.row U hl hm hsz hA hU)

/-- What is read is as is known. -/
theorem Rep.rd (h : Rep P C X st a w gh) {pv : V} {u : Value} (hp : VR P w gh st.ob pv u) {q : Nat} {x : V} (hr : rdD st pv q = some x) :
    ∃ b f y, u = .pointer (some ⟨b, f, none⟩) ∧ w.cell? ⟨b, f + q, none⟩ = some y ∧ VR P w gh st.ob x y ∧ y.oneCell' = true := by
  cases hp with
  | dead => simp [rdD] at hr
  | und => simp [rdD] at hr
  | sc => simp [rdD] at hr
  | nil => simp [rdD] at hr
  | imm => simp [rdD] at hr
  | clo => simp [rdD] at hr
  | ref => simp [rdD] at hr
  | agg => simp [rdD] at hr
  | tup => simp [rdD] at hr
  | cond => simp [rdD] at hr
  | @bp o j cs hx =>
    simp only [rdD, hx, Option.map_eq_some_iff] at hr
    obtain ⟨d, hd, rfl⟩ := hr
    have hb := h.obs o _ hx
    cases hb with
    | box xs G hb hl h1 hc hx' dis nb hF =>
      have hj : j + q < xs.length := by rw [hl]; exact (List.getElem?_eq_some_iff.1 hd).1
      have hcell := (hc _ hj).trans (getD_of_lt hj)
      refine ⟨_, _, _, rfl, by rw [Nat.add_assoc]; exact hcell, cellV_VR hx (hx' _ d hd) ⟨d, _, hd, hcell, .nil⟩, (hx' _ d hd).one⟩
  | @rp o i j p x0 e es ad c hx hn =>
    have hs := hn.sub
    simp only [rdD, hx, Option.bind_some, hs, Option.map_eq_some_iff] at hr
    obtain ⟨d, hd, rfl⟩ := hr
    obtain ⟨v', F', hn', how, _⟩ := (h.obs o _ hx).focus hs
    obtain ⟨_, rfl⟩ := hn.fn hn'
    cases how with
    | row xs G own hsz h1 hx' dis nb =>
      have hlt := off_lt (cellAt_lt hd) (cellAt_len hd hsz)
      obtain ⟨g, cap, he, hcc, hm, hcell, _⟩ := ownsRow_cell own (by have := cellAt_lt hd; omega)
      cases he
      have hcl := (hcell _ hlt).trans (getD_of_lt (by rw [own.1]; exact hlt))
      refine ⟨_, _, _, rfl, ?_, cellV_VR hx (hx' _ _ d hd) (hn.snoc hd ?_), (hx' _ _ d hd).one⟩
      · simp only [Nat.zero_add, Nat.add_assoc]; exact hcl
      · simp only [Nat.zero_add]; exact hcl
  | @ip ch j b f U hs hU =>
    simp only [rdD, Option.map_eq_some_iff] at hr
    obtain ⟨d, hd, rfl⟩ := hr
    obtain ⟨h1, h2⟩ := hU _ d hd
    exact ⟨_, _, _, rfl, by rw [Nat.add_assoc]; exact h1, cellI_VR h2, h2.one⟩
end
end Go.Proofs.Ytldniggehdpheaa.AW

namespace Go.Proofs.Ytldniggehdpheaa.AW
open Go.RowKit

def isR (P : Program) (t : TypeId) : Option Bool := (P.underlying t).map TypeDesc.isRow
/-- A field's place in its struct. -/
def fo (P : Program) (s f : Nat) : Option Nat := match P.underlying s with
  | some (.struct fs) => match fs[f]? with
    | some fd => if 0 < szT P fd.type then some fd.offset else none
    | none => none
  | _ => none
def elT (P : Program) (t : TypeId) : Option TypeId := if t < P.types.size then (match P.underlying t with
  | some (.slice e) => some e
  | _ => none) else none

def tab (f : Nat → V) : Nat → Nat → List V
  | _, 0 => []
  | k, n + 1 => f k :: tab f (k + 1) n
def allSome (f : Nat → Option V) : Nat → Nat → Prop
  | _, 0 => True
  | k, n + 1 => (f k).isSome = true ∧ allSome f (k + 1) n

def boolB (op : BinOp) (a b : Bool) : Option Bool := match op with
  | .eql => some (a == b)
  | .neq => some (a != b)
  | _ => none

def strV (op : BinOp) (a b : ByteArray) : Prop × V := match op with
  | .add => (a.size + b.size ≤ 9223372036854775807, .sc (.string (a ++ b)))
  | .eql => (True, .sc (.bool (a.toList == b.toList)))
  | .neq => (True, .sc (.bool (!(a.toList == b.toList))))
  | .lss => (True, .sc (.bool (Op.bytesLess a.toList b.toList)))
  | .leq => (True, .sc (.bool (Op.bytesLess a.toList b.toList || a.toList == b.toList)))
  | .gtr => (True, .sc (.bool (!(Op.bytesLess a.toList b.toList || a.toList == b.toList))))
  | .geq => (True, .sc (.bool (!Op.bytesLess a.toList b.toList)))
  | _ => (False, .dead)

def intV (op : BinOp) (k : IntKind) (a b : Int) : Prop × V := match op with
  | .add => (True, .sc (.int k (k.wrap (a + b))))
  | .sub => (True, .sc (.int k (k.wrap (a - b))))
  | .mul => (True, .sc (.int k (k.wrap (a * b))))
  | .quo => (b ≠ 0, .sc (.int k (k.wrap (a.tdiv b))))
  | .rem => (b ≠ 0, .sc (.int k (a.tmod b)))
  | .and => (True, .sc (.int k (bits .and k a b)))
  | .or => (True, .sc (.int k (bits .or k a b)))
  | .xor => (True, .sc (.int k (bits .xor k a b)))
  | .andNot => (True, .sc (.int k (bits .andNot k a b)))
  | .eql => (True, .sc (.bool (a == b)))
  | .neq => (True, .sc (.bool (a != b)))
  | .lss => (True, .sc (.bool (decide (a < b))))
  | .leq => (True, .sc (.bool (decide (a ≤ b))))
  | .gtr => (True, .sc (.bool (decide (b < a))))
  | .geq => (True, .sc (.bool (decide (b ≤ a))))
  | _ => (False, .dead)

def isSh : BinOp → Bool
  | .shl | .shr => true
  | _ => false

def binV (P : Program) (op : BinOp) (t : TypeId) (x y : V) : Prop × V := match x, y with
  | .sc (.int k a), .sc (.int k' b) =>
    if isSh op then (match op with
      | .shl => (0 ≤ b, .sc (.int k (k.wrap (a * 2 ^ min b.toNat k.bits))))
      | .shr => (0 ≤ b, .sc (.int k (a.fdiv (2 ^ min b.toNat k.bits))))
      | _ => (False, .dead))
    else (k = k' ∧ (intV op k a b).1, (intV op k a b).2)
  | .sc (.string a), .sc (.string b) => strV op a b
  | .sc (.bool a), .sc (.bool b) => match boolB op a b with
    | some r => (P.underlying t = some .bool, .sc (.bool r))
    | none => (False, .dead)
  | _, _ => (False, .dead)

def unV (op : UnOp) (x : V) : Prop × V := match op, x with
  | .not, .sc (.bool b) => (True, .sc (.bool (!b)))
  | .neg, .sc (.int k n) => (True, .sc (.int k (k.wrap (0 - n))))
  | _, _ => (False, .dead)

def nilV : V → Prop × V
  | .bp o j => (True, .bp o j)
  | .rp o p i j => (True, .rp o p i j)
  | .ip ch j => (True, .ip ch j)
  | _ => (False, .dead)

def fieldAddrV (P : Program) (s f : Nat) (x : V) : Prop × V := match fo P s f with
  | none => (False, .dead)
  | some off => match x with
    | .bp o j => (True, .bp o (j + off))
    | .rp o p i j => (True, .rp o p i (j + off))
    | .ip ch j => (True, .ip ch (j + off))
    | _ => (False, .dead)

def pickV (c a b : V) : Prop × V := match c with
  | .sc (.bool t) => match a, b with
    | .sc (.bool x), .sc (.bool y) => (True, .sc (.bool (bif t then x else y)))
    | .sc (.bool x), .cond c' (.sc (.bool y)) => (t = false → c' = true, .sc (.bool (bif t then x else y)))
    | .cond c' (.sc (.bool x)), .sc (.bool y) => (t = true → c' = true, .sc (.bool (bif t then x else y)))
    | .sc (.bool x), _ => (t = true, .sc (.bool x))
    | _, .sc (.bool y) => (t = false, .sc (.bool y))
    | _, _ => (False, .dead)
  | _ => (False, .dead)

def loadV (P : Program) (st : St) (t : TypeId) (x : V) : Prop × V := match isR P t with
  | some true => (allSome (rdD st x) 0 (szT P t) ∧ 0 < szT P t, .agg (tab (fun q => (rdD st x q).getD .dead) 0 (szT P t)))
  | some false => ((rdD st x 0).isSome = true, (rdD st x 0).getD .dead)
  | none => (False, .dead)

/-- The row that a slot has: its elements' type, itself, how many of it. -/
def rowOf (st : St) : V → Option (TypeId × List (List D) × Nat)
  | .imm e es => some (e, es, es.length)
  | .nil e => some (e, [], 0)
  | .ref o p n => match (look st.ob o).bind (subO · p) with
    | some (.row false e es) => some (e, es, n)
    | _ => none
  | _ => none

def indexAddrV (P : Program) (st : St) (t : TypeId) (x ix : V) : Prop × V := match ix with
  | .sc (.int _ i) => match x with
    | .imm e es => (elT P t = some e ∧ 0 ≤ i ∧ i < es.length, .ip (es.getD i.toNat []) 0)
    | .ref o p n => match (look st.ob o).bind (subO · p) with
      | some (.row false e _) => (elT P t = some e ∧ 0 ≤ i ∧ i < n, .rp o p i.toNat 0)
      | _ => (False, .dead)
    | _ => (False, .dead)
  | _ => (False, .dead)

def lenV (P : Program) (t : TypeId) (x : V) : Prop × V := match x with
  | .sc (.string s) => (P.underlying t = some .string, .sc (.int .i64 s.size))
  | .imm _ es => ((elT P t).isSome = true, .sc (.int .i64 es.length))
  | .nil _ => ((elT P t).isSome = true, .sc (.int .i64 0))
  | .sc (.slice _ n _) => ((elT P t).isSome = true, .sc (.int .i64 n))
  | .ref _ _ n => ((elT P t).isSome = true, .sc (.int .i64 n))
  | _ => (False, .dead)

def minV (lo : Bool) (x y : V) : Prop × V := match x, y with
  | .sc (.int k a), .sc (.int _ b) => (True, .sc (.int k (if lo then (if b < a then b else a) else (if b > a then b else a))))
  | _, _ => (False, .dead)

def indexV (P : Program) (t : TypeId) (x ix : V) : Prop × V := match x, ix with
  | .sc (.string s), .sc (.int _ i) => (P.underlying t = some .string ∧ 0 ≤ i ∧ i < s.size, .sc (.int .u8 ((s.data.toList.getD i.toNat 0).toNat)))
  | _, _ => (False, .dead)

def convV (P : Program) (src dst : TypeId) (x : V) : Prop × V := match x with
  | .sc (.int _ n) => match P.underlying dst with
    | some (.int k) => ((P.underlying src).isSome = true, .sc (.int k (k.wrap n)))
    | _ => (False, .dead)
  | .sc (.string s) => match P.underlying src, P.underlying dst with
    | some .string, some .string => (True, .sc (.string s))
    | _, _ => (False, .dead)
  | _ => (False, .dead)

def extractV (i : Nat) : V → Prop × V
  | .tup vs => (i < vs.length, vs.getD i .dead)
  | _ => (False, .dead)

def oneV : V → Bool
  | .sc v => v.oneCell'
  | .nil _ | .imm .. | .ref .. | .bp .. | .rp .. | .ip .. => true
  | _ => false

def fieldV (P : Program) (s f : Nat) (x : V) : Prop × V := match P.underlying s with
  | some (.struct fs) => match fs[f]? with
    | some fd => match x with
      | .agg vs => match isR P fd.type with
        | some false => (fd.offset < vs.length, vs.getD fd.offset .dead)
        | _ => (False, .dead)
      | _ => (False, .dead)
    | none => (False, .dead)
  | _ => (False, .dead)

def convQ : V → Bool
  | .ref _ _ _ => true
  | _ => false

/-- What comes of an operation that only reckons and reads: what it asks; what it comes to. -/
def aPure (P : Program) (o : Oper) (st : St) : Option (Prop × V) := match o.op with
  | .move x => some ((st.ev x).ok, (st.ev x).str)
  | .pick c a b => some ((st.ev c).ok ∧ (pickV (st.ev c).str (st.ev a) (st.ev b)).1, (pickV (st.ev c).str (st.ev a) (st.ev b)).2)
  | .load t x => some ((st.ev x).ok ∧ (loadV P st t (st.ev x).str).1, (loadV P st t (st.ev x).str).2)
  | .nilCheck x => some ((st.ev x).ok ∧ (nilV (st.ev x).str).1, (nilV (st.ev x).str).2)
  | .binOp op t x y _ => some ((st.ev x).ok ∧ (st.ev y).ok ∧ (binV P op t (st.ev x).str (st.ev y).str).1, (binV P op t (st.ev x).str (st.ev y).str).2)
  | .unOp op _ x => some ((st.ev x).ok ∧ (unV op (st.ev x).str).1, (unV op (st.ev x).str).2)
  | .convert s t x => if convQ (st.ev x).str then none else some ((st.ev x).ok ∧ (convV P s t (st.ev x).str).1, (convV P s t (st.ev x).str).2)
  | .fieldAddr s x f => some ((st.ev x).ok ∧ (fieldAddrV P s f (st.ev x).str).1, (fieldAddrV P s f (st.ev x).str).2)
  | .field s x f => some ((st.ev x).ok ∧ (fieldV P s f (st.ev x).str).1, (fieldV P s f (st.ev x).str).2)
  | .indexAddr t x y => some ((st.ev x).ok ∧ (st.ev y).ok ∧ (indexAddrV P st t (st.ev x).str (st.ev y).str).1, (indexAddrV P st t (st.ev x).str (st.ev y).str).2)
  | .index t x y => some ((st.ev x).ok ∧ (st.ev y).ok ∧ (indexV P t (st.ev x).str (st.ev y).str).1, (indexV P t (st.ev x).str (st.ev y).str).2)
  | .extract x i => some ((st.ev x).ok ∧ (extractV i (st.ev x).str).1, (extractV i (st.ev x).str).2)
  | .call c => match c.callee with
    | .builtin .len => match c.args.toList, c.argTypes.toList with
      | [x], t :: _ => some ((st.ev x).ok ∧ (lenV P t (st.ev x).str).1, (lenV P t (st.ev x).str).2)
      | _, _ => none
    | .builtin .min => match c.args.toList with
      | [x, y] => some ((st.ev x).ok ∧ (st.ev y).ok ∧ (minV true (st.ev x).str (st.ev y).str).1, (minV true (st.ev x).str (st.ev y).str).2)
      | _ => none
    | .builtin .max => match c.args.toList with
      | [x, y] => some ((st.ev x).ok ∧ (st.ev y).ok ∧ (minV false (st.ev x).str (st.ev y).str).1, (minV false (st.ev x).str (st.ev y).str).2)
      | _ => none
    | _ => none
  | _ => none

section
variable {P : Program} {w w1 : World} {C : Cx} {X : Nat → Prop} {gh : Gh} {st : St} {a : Act} {v : V} {u : Value} {ob : List (Nat × Ob)}

theorem run_loadVar_one (w : World) (ad : Addr) (t : TypeId) (y : Value) (d : TypeDesc) (hu : P.underlying t = some d) (hd : d.isRow = false) (hc : w.cell? ad = some y) : (loadVar t ad).run P w = .ok y w := by
  have hagg : (isAgg t).run P w = .ok false w := by
    unfold isAgg
    rw [Sem.run_bind, run_underlying hu w]
    cases d <;> simp_all
  simp [loadVar, Sem.run_bind, hagg, hc]

theorem tab_length (f : Nat → V) (k n : Nat) : (tab f k n).length = n := by
  induction n generalizing k with
  | zero => rfl
  | succ n ih => simp [tab, ih]
theorem tab_get (f : Nat → V) (k n i : Nat) (h : i < n) : (tab f k n)[i]? = some (f (k + i)) := by
  induction n generalizing k i with
  | zero => omega
  | succ n ih =>
    cases i with
    | zero => simp [tab]
    | succ i => simp only [tab, List.getElem?_cons_succ]; rw [ih (k + 1) i (by omega)]; congr 2; omega
theorem allSome_get {f : Nat → Option V} {k n : Nat} (h : allSome f k n) (i : Nat) (hi : i < n) : (f (k + i)).isSome = true := by
  induction n generalizing k i with
  | zero => omega
  | succ n ih =>
    cases i with
    | zero => exact h.1
    | succ i => have := ih h.2 i (by omega); rwa [show k + 1 + i = k + (i + 1) by omega] at this

theorem load_sound (h : Rep P C X st a w gh) {t : TypeId} {pv : V} {u : Value} (hp : VR P w gh st.ob pv u) (hs : (loadV P st t pv).1) :
    ∃ y, (Instr.loadAt t u).run P w = .ok y w ∧ VR P w gh st.ob (loadV P st t pv).2 y := by
  unfold loadV at hs ⊢
  cases hr : isR P t with
  | none => simp [hr] at hs
  | some b =>
    simp only [hr] at hs ⊢
    obtain ⟨d, hu, hd⟩ := Option.map_eq_some_iff.1 hr
    cases b with
    | false =>
      simp only at hs ⊢
      obtain ⟨x, hx⟩ := Option.isSome_iff_exists.1 hs
      obtain ⟨b, f, y, rfl, hc, hv, _⟩ := h.rd hp hx
      refine ⟨y, ?_, by rw [hx]; exact hv⟩
      simp only [Instr.loadAt, Instr.sureAddr, Sem.run_bind, Sem.run_pure, Result.andThen_ok]
      exact run_loadVar_one w _ t y d hu hd hc
    | true =>
      simp only at hs ⊢
      obtain ⟨hs, hpos⟩ := hs
      have step : ∀ q, q < szT P t → ∃ b f y, u = .pointer (some ⟨b, f, none⟩) ∧ w.cell? ⟨b, f + q, none⟩ = some y ∧ VR P w gh st.ob ((rdD st pv q).getD .dead) y ∧ y.oneCell' = true := by
        intro q hq
        have := allSome_get hs q hq
        rw [Nat.zero_add] at this
        obtain ⟨x, hx⟩ := Option.isSome_iff_exists.1 this
        rw [hx]
        exact h.rd hp hx
      obtain ⟨b, f, _, rfl, _⟩ := step 0 hpos
      have step2 : ∀ q, q < szT P t → ∃ y, w.cell? ⟨b, f + q, none⟩ = some y ∧ VR P w gh st.ob ((rdD st pv q).getD .dead) y ∧ y.oneCell' = true := by
        intro q hq
        obtain ⟨b', f', y, e, h1, h2⟩ := step q hq
        cases e
        exact ⟨y, h1, h2⟩
      obtain ⟨ys, hl, hys⟩ : ∃ ys : List Value, ys.length = szT P t ∧ ∀ q, q < szT P t → w.cell? ⟨b, f + q, none⟩ = ys[q]? ∧ VR P w gh st.ob ((rdD st pv q).getD .dead) (ys.getD q undef) ∧ (ys.getD q undef).oneCell' = true := by
        refine ⟨(List.range (szT P t)).map fun q => (w.cell? ⟨b, f + q, none⟩).getD undef, by simp, fun q hq => ?_⟩
        obtain ⟨y, h1, h2, h3⟩ := step2 q hq
        have : ((List.range (szT P t)).map fun q => (w.cell? ⟨b, f + q, none⟩).getD undef)[q]? = some y := by simp [hq, h1]
        refine ⟨by rw [this, h1], ?_, ?_⟩ <;> (simp only [List.getD, this, Option.getD_some]; assumption)
      refine ⟨.agg ys.toArray, run_loadAt_mid w b f t ys d (fun j v hv => ?_) hu hd ?_, .agg (by simp [tab_length, hl]) (fun u hu => ?_) (fun i v hv => ?_)⟩
      · have hj : j < szT P t := by rw [← hl]; exact (List.getElem?_eq_some_iff.1 hv).1
        rw [(hys j hj).1, hv]
      · unfold szT at hl hpos
        cases hq : P.info? t with
        | none => simp [hq] at hpos
        | some i => simp [hq] at hl ⊢; omega
      · obtain ⟨i, hi, rfl⟩ := List.getElem_of_mem (by simpa using hu : u ∈ ys)
        have := (hys i (by omega)).2.2
        simpa [List.getD, List.getElem?_eq_getElem hi] using this
      · have hi : i < szT P t := by
          have := (List.getElem?_eq_some_iff.1 hv).1
          rwa [tab_length] at this
        rw [tab_get _ _ _ _ hi, Nat.zero_add] at hv
        cases hv
        have := (hys i hi).2.1
        simpa [Array.getD, List.getD, hl, hi] using this
end
end Go.Proofs.Ytldniggehdpheaa.AW

namespace Go.Proofs.Ytldniggehdpheaa.AW
open Go.RowKit

set_option linter.unusedSimpArgs false
set_option linter.unusedVariables false
section
variable {P : Program} {w w1 : World} {C : Cx} {X : Nat → Prop} {gh : Gh} {st : St} {a : Act} {v : V} {u : Value} {ob : List (Nat × Ob)}

theorem VR.sc_inv {x : Value} (h : VR P w gh ob (.sc x) u) : u = x := by cases h; rfl

theorem nil_sound {x : V} (hv : VR P w gh ob x u) (hs : (nilV x).1) : (∃ b, u = .pointer (some b)) ∧ (nilV x).2 = x := by
  cases hv <;> simp [nilV] at hs ⊢

theorem szT_info {t : TypeId} (h : 0 < szT P t) : ∃ i, P.info? t = some i ∧ i.size = szT P t := by
  unfold szT at h ⊢
  cases hq : P.info? t with
  | none => simp [hq] at h
  | some i => exact ⟨i, rfl, by simp⟩

theorem run_sizeOf {t : TypeId} (h : 0 < szT P t) (w : World) : (sizeOf t).run P w = .ok (szT P t) w := by
  obtain ⟨i, hi, hs⟩ := szT_info h
  simp [sizeOf, typeInfo, hi, hs]

theorem add_mid' (b f q : Nat) : (⟨b, f, none⟩ : Addr).add q = ⟨b, f + q, none⟩ := Addr.add_mid b f q

theorem fieldAddr_sound {x : V} {s f : Nat} (hv : VR P w gh ob x u) (hs : (fieldAddrV P s f x).1) : ∃ y, (∀ w : World, (Instr.fieldAt s u f).run P w = .ok y w) ∧ VR P w gh ob (fieldAddrV P s f x).2 y := by
  unfold fieldAddrV at hs ⊢
  cases hf : fo P s f with
  | none => simp [hf] at hs
  | some off =>
    simp only [hf] at hs ⊢
    unfold fo at hf
    split at hf
    case h_2 => cases hf
    rename_i fs hu
    split at hf
    case h_2 => cases hf
    rename_i fd hfd
    split at hf
    case isFalse => cases hf
    rename_i hpos
    cases hf
    have hne : szT P fd.type ≠ 0 := by omega
    have hrun : ∀ b o (w : World), (Instr.fieldAt s (.pointer (some ⟨b, o, none⟩)) f).run P w = .ok (.pointer (some ⟨b, o + fd.offset, none⟩)) w := by
      intro b o w
      simp [Instr.fieldAt, run_underlying hu, hfd, Instr.sureAddr, fieldPlace, run_sizeOf hpos, hne, add_mid']
    cases hv <;> simp only at hs ⊢ <;> try exact hs.elim
    case bp o j cs hx => exact ⟨_, hrun _ _, by rw [Nat.add_assoc]; exact .bp hx⟩
    case rp o i j p x e es ad c hx hn => exact ⟨_, hrun _ _, by have := VR.rp (i := i) (j := j + fd.offset) hx hn; rwa [← Nat.add_assoc, ← Nat.add_assoc, Nat.add_assoc ad.off] at this⟩
    case ip ch j b g U hs' hU => exact ⟨_, hrun _ _, by rw [Nat.add_assoc]; exact .ip U hs' hU⟩

theorem bool_op {b c : Bool} {t : TypeId} (ht : P.underlying t = some .bool) {op : BinOp} {r : Bool} (hr : boolB op b c = some r) : ∀ w : World, (binOp op t (.bool b) (.bool c)).run P w = .ok (.bool r) w := by
  intro w
  have h := run_equal_bool (P := P) w t b c ht
  cases op <;> simp only [boolB, Option.some.injEq] at hr <;> try cases hr
  · simp only [binOp]; simp [h]
  · simp only [binOp]; simp [h]; cases b <;> cases c <;> rfl

theorem int_op {k k' : IntKind} {x y : Int} {t : TypeId} {op : BinOp} (hs : (binV P op t (.sc (.int k x)) (.sc (.int k' y))).1) :
    ∃ r, (∀ w : World, (binOp op t (.int k x) (.int k' y)).run P w = .ok r w) ∧ (binV P op t (.sc (.int k x)) (.sc (.int k' y))).2 = .sc r ∧ r.oneCell' = true := by
  cases op <;> simp only [binV, isSh, if_true, if_false, Bool.false_eq_true, intV] at hs ⊢ <;> try (exact hs.elim) <;> try (exact hs.2.elim)
  all_goals try (obtain ⟨rfl, hs⟩ := hs)
  all_goals refine ⟨_, fun w => ?_, rfl, rfl⟩
  all_goals first
    | (simp [binOp, Op.intArith]; done)
    | (simp [binOp, Op.intDiv, hs]; done)
    | (simp [binOp, Op.intCmp]; done)
    | (simp [binOp, Op.intBits, bits]; done)
    | (simp only [binOp, Op.shift]; rw [if_neg (by omega)]; rfl)

theorem str_op {x y : ByteArray} {t : TypeId} {op : BinOp} (hs : (strV op x y).1) : ∃ r, (∀ w : World, (binOp op t (.string x) (.string y)).run P w = .ok r w) ∧ (strV op x y).2 = .sc r ∧ r.oneCell' = true := by
  cases op <;> simp only [strV] at hs ⊢ <;> try (exact hs.elim)
  all_goals refine ⟨_, fun w => ?_, rfl, rfl⟩
  all_goals first
    | (simp [binOp, Op.stringOp]; done)
    | (simp only [binOp, Op.stringOp]; rw [if_neg (by simp [IntKind.max, IntKind.signed, IntKind.bits]; omega)]; rfl)

theorem eqGuard_ok {op : BinOp} {t : TypeId} {x y : Operand} {p q : Value} (h : p.oneCell' = true) (hn : p ≠ .nilIface) (w : World) : (eqGuard op t x y p q).run P w = .ok () w := by
  cases p <;> first
    | (exact absurd rfl hn)
    | (simp [Value.oneCell'] at h; done)
    | (cases op <;> rfl)

theorem bin_sound {op : BinOp} {t : TypeId} {x y : V} {p q : Value} (hx : VR P w gh ob x p) (hy : VR P w gh ob y q) (hs : (binV P op t x y).1) :
    ∃ r, (∀ w : World, (binOp op t p q).run P w = .ok r w) ∧ VR P w gh ob (binV P op t x y).2 r ∧ p.oneCell' = true ∧ p ≠ .nilIface := by
  unfold binV at hs ⊢
  split at hs
  · rename_i k a k' b
    have h1 := hx.sc_inv; have h2 := hy.sc_inv; subst h1; subst h2
    obtain ⟨r, h1, h2, h3⟩ := int_op (P := P) (t := t) (op := op) (k := k) (k' := k') (x := a) (y := b) (by simpa only [binV] using hs)
    refine ⟨r, h1, ?_, rfl, by simp⟩
    have h4 : VR P w gh ob (binV P op t (.sc (.int k a)) (.sc (.int k' b))).2 r := by rw [h2]; exact .sc h3
    simpa only [binV] using h4
  · rename_i a b
    have h1 := hx.sc_inv; have h2 := hy.sc_inv; subst h1; subst h2
    obtain ⟨r, h1, h2, h3⟩ := str_op (P := P) (t := t) hs
    refine ⟨r, h1, ?_, rfl, by simp⟩
    simp only [h2]
    exact .sc h3
  · rename_i a b
    have h1 := hx.sc_inv; have h2 := hy.sc_inv; subst h1; subst h2
    split at hs
    · rename_i r hr
      refine ⟨.bool r, bool_op hs hr, ?_, rfl, by simp⟩
      simp only [hr]
      exact .sc rfl
    · exact hs.elim
  · exact hs.elim

theorem un_sound {op : UnOp} {x : V} {p : Value} (hx : VR P w gh ob x p) (hs : (unV op x).1) : ∃ r, (∀ w : World, (Op.unary op p).run P w = .ok r w) ∧ VR P w gh ob (unV op x).2 r := by
  unfold unV at hs ⊢
  split at hs
  · have h1 := hx.sc_inv; subst h1
    exact ⟨_, fun w => by simp [Op.unary], .sc rfl⟩
  · have h1 := hx.sc_inv; subst h1
    exact ⟨_, fun w => by simp [Op.unary, Op.intArith], .sc rfl⟩
  · exact hs.elim

theorem conv_sound {s t : TypeId} {x : V} {p : Value} (hx : VR P w gh ob x p) (hs : (convV P s t x).1) : ∃ r, (∀ w : World, (convert s t p).run P w = .ok r w) ∧ VR P w gh ob (convV P s t x).2 r := by
  unfold convV at hs ⊢
  split at hs
  · rename_i k0 n
    have h1 := hx.sc_inv; subst h1
    split at hs
    · rename_i k hk
      simp only [hk]
      obtain ⟨d, hd⟩ := Option.isSome_iff_exists.1 hs
      exact ⟨_, fun w => by simp [convert, run_underlying hd, run_underlying hk, Conv.intToInt], .sc rfl⟩
    · exact hs.elim
  · rename_i str
    have h1 := hx.sc_inv; subst h1
    split at hs
    · rename_i h2 h3
      simp only [h2, h3]
      exact ⟨_, fun w => by simp [convert, run_underlying h2, run_underlying h3], .sc rfl⟩
    · exact hs.elim
  · exact hs.elim

theorem pick_sound {c x y : V} {q r s : Value} (hc : VR P w gh ob c q) (hx : VR P w gh ob x r) (hy : VR P w gh ob y s) (hs : (pickV c x y).1) :
    ∃ t, q = .bool t ∧ VR P w gh ob (pickV c x y).2 (if t then r else s) := by
  unfold pickV at hs ⊢
  split at hs
  · rename_i t
    have h1 := hc.sc_inv; subst h1
    refine ⟨t, rfl, ?_⟩
    split at hs
    · have h1 := hx.sc_inv; have h2 := hy.sc_inv; subst h1; subst h2
      cases t <;> exact .sc rfl
    · have h1 := hx.sc_inv; subst h1
      cases t
      · cases hy with
        | cond ht hf => have := (ht (hs rfl)).sc_inv; subst this; exact .sc rfl
      · exact .sc rfl
    · have h2 := hy.sc_inv; subst h2
      cases t
      · exact .sc rfl
      · cases hx with
        | cond ht hf => have := (ht (hs rfl)).sc_inv; subst this; exact .sc rfl
    · have h1 := hx.sc_inv; subst h1
      simp only at hs
      subst hs; exact .sc rfl
    · have h2 := hy.sc_inv; subst h2
      simp only at hs
      subst hs; exact .sc rfl
    · exact hs.elim
  · exact hs.elim

theorem elT_some {t e : TypeId} (h : elT P t = some e) : P.underlying t = some (.slice e) := by
  unfold elT at h
  split at h
  · split at h
    · rename_i e' he; cases h; exact he
    · cases h
  · cases h

theorem run_indexAt (w : World) {t e : TypeId} (ht : P.underlying t = some (.slice e)) (b f l c : Nat) (k : IntKind) (i : Int) (h0 : 0 ≤ i) (h1 : i < l) (hz : 0 < szT P e) :
    (Instr.indexAt t (.slice (some ⟨b, f, none⟩) l c) (.int k i)).run P w = .ok (.pointer (some ⟨b, f + i.toNat * szT P e, none⟩)) w := by
  simp [Instr.indexAt, run_underlying ht, asIntOf, h0, h1, run_sizeOf hz, add_mid']

theorem len_sound {t : TypeId} {x : V} {p : Value} {ty : TypeId} {r : Array TypeId} (hx : VR P w gh ob x p) (hs : (lenV P t x).1) (hr : r[0]? = some t) : ∃ y, (∀ w : World, (Builtin.len_ r ty #[p]).run P w = .ok y w) ∧ VR P w gh ob (lenV P t x).2 y := by
  have sl : (elT P t).isSome = true → ∃ e, P.underlying t = some (.slice e) := fun h => by
    obtain ⟨e, he⟩ := Option.isSome_iff_exists.1 h
    exact ⟨e, elT_some he⟩
  unfold lenV at hs ⊢
  cases hx <;> (try simp only at hs ⊢) <;> try exact hs.elim
  case sc h =>
    cases p <;> (try simp only at hs ⊢) <;> try exact hs.elim
    case string => exact ⟨_, fun w => by simp [Builtin.len_, hr, run_underlying hs, goInt], .sc rfl⟩
    case slice =>
      obtain ⟨e, he⟩ := sl hs
      exact ⟨_, fun w => by simp [Builtin.len_, hr, run_underlying he, goInt], .sc rfl⟩
  case nil e0 =>
    obtain ⟨e, he⟩ := sl hs
    exact ⟨_, fun w => by simp [Builtin.len_, hr, run_underlying he, goInt], .sc rfl⟩
  case imm e0 es h =>
    obtain ⟨e, he⟩ := sl hs
    cases h
    exact ⟨_, fun w => by simp [Builtin.len_, hr, run_underlying he, goInt], .sc rfl⟩
  case ref =>
    obtain ⟨e, he⟩ := sl hs
    exact ⟨_, fun w => by simp [Builtin.len_, hr, run_underlying he, goInt], .sc rfl⟩

theorem min_sound {lo : Bool} {x y : V} {p q : Value} {r : Array TypeId} {ty : TypeId} (hx : VR P w gh ob x p) (hy : VR P w gh ob y q) (hs : (minV lo x y).1) :
    ∃ z, (∀ w : World, (if lo then Builtin.min_ r ty #[p, q] else Builtin.max_ r ty #[p, q]).run P w = .ok z w) ∧ VR P w gh ob (minV lo x y).2 z := by
  unfold minV at hs ⊢
  split at hs
  · have h1 := hx.sc_inv; have h2 := hy.sc_inv; subst h1; subst h2
    cases lo
    · exact ⟨_, fun w => by simp [Builtin.max_, Builtin.max2], .sc rfl⟩
    · exact ⟨_, fun w => by simp [Builtin.min_, Builtin.min2], .sc rfl⟩
  · exact hs.elim

theorem index_sound {t : TypeId} {x y : V} {p q : Value} (hx : VR P w gh ob x p) (hy : VR P w gh ob y q) (hs : (indexV P t x y).1) : ∃ z, (∀ w : World, (Instr.index t p q).run P w = .ok z w) ∧ VR P w gh ob (indexV P t x y).2 z := by
  unfold indexV at hs ⊢
  split at hs
  · rename_i s k i
    have h1 := hx.sc_inv; have h2 := hy.sc_inv; subst h1; subst h2
    obtain ⟨h1, h2, h3⟩ := hs
    have hlt : i.toNat < s.size := by omega
    refine ⟨.int .u8 ((s.data.toList.getD i.toNat 0).toNat), fun w => ?_, .sc rfl⟩
    have hb : s[i.toNat]? = some (s.data.toList.getD i.toNat 0) := by
      rw [getElem?_pos s i.toNat hlt]
      simp only [Option.some.injEq, List.getD]
      rw [List.getElem?_eq_getElem (by simpa using hlt)]
      rfl
    simp [Instr.index, asIntOf, run_underlying h1, h2, hb]
  · exact hs.elim

theorem extract_sound {i : Nat} {x : V} {p : Value} (hx : VR P w gh ob x p) (hs : (extractV i x).1) : ∃ z, (∀ w : World, (Instr.extract p i).run P w = .ok z w) ∧ VR P w gh ob (extractV i x).2 z := by
  cases hx <;> simp only [extractV] at hs ⊢ <;> try exact hs.elim
  case tup vs us hl h =>
    have hi : i < us.size := by omega
    refine ⟨us[i], fun w => by simp [Instr.extract, hi], ?_⟩
    have := h i (vs.getD i .dead) (by rw [List.getElem?_eq_getElem hs]; simp [List.getD, hs])
    simpa [Array.getD, hi] using this

theorem field_sound {s f : TypeId} {x : V} {p : Value} (hx : VR P w gh ob x p) (hs : (fieldV P s f x).1) : ∃ z, (∀ w : World, (Instr.field s p f).run P w = .ok z w) ∧ VR P w gh ob (fieldV P s f x).2 z := by
  unfold fieldV at hs ⊢
  split at hs
  case h_2 => exact hs.elim
  rename_i fs hu
  split at hs
  case h_2 => exact hs.elim
  rename_i fd hfd
  cases hx <;> (try simp only at hs ⊢) <;> try exact hs.elim
  case agg vs us hl h1 h =>
    split at hs
    case h_2 => exact hs.elim
    rename_i hr
    obtain ⟨d, hd, hrow⟩ := Option.map_eq_some_iff.1 hr
    have hs : fd.offset < vs.length := hs
    have hi : fd.offset < us.size := by omega
    have hagg : ∀ w : World, (isAgg fd.type).run P w = .ok false w := by
      intro w
      unfold isAgg
      rw [Sem.run_bind, run_underlying hd w]
      cases d <;> simp_all
    refine ⟨us[fd.offset], fun w => by simp [Instr.field, run_underlying hu, hfd, asAgg, part, Sem.run_bind, hagg, hi], ?_⟩
    simp only [hr]
    have := h fd.offset (vs.getD fd.offset .dead) (by rw [List.getElem?_eq_getElem hs]; simp [List.getD, hs])
    simpa [Array.getD, hi] using this
end
end Go.Proofs.Ytldniggehdpheaa.AW

namespace Go.Proofs.Ytldniggehdpheaa.AW
open Go.RowKit
set_option linter.unusedSimpArgs false
set_option linter.unusedVariables false
section
variable {P : Program} {w w1 : World} {C : Cx} {X : Nat → Prop} {gh : Gh} {st : St} {a : Act} {v : V} {u : Value} {ob : List (Nat × Ob)}

theorem cellAt_some {es : List (List D)} {i n : Nat} (hi : i < es.length) (hsz : ∀ l ∈ es, l.length = n) (hn : 0 < n) : ∃ d, cellAt es i 0 = some d := by
  have hl := hsz _ (List.getElem_mem hi)
  refine ⟨(es[i])[0], ?_⟩
  unfold cellAt
  rw [List.getElem?_eq_getElem hi, Option.bind_some, List.getElem?_eq_getElem (by omega)]

theorem indexAddr_sound (hz : ∀ e, 0 < szT P e ∨ szT P e = 0) (h : Rep P C X st a w gh) {t : TypeId} {x y : V} {p q : Value} (hx : VR P w gh st.ob x p) (hy : VR P w gh st.ob y q)
    (hs : (indexAddrV P st t x y).1) (hpos : ∀ e, elT P t = some e → 0 < szT P e) :
    ∃ z, (∀ w : World, (Instr.indexAt t p q).run P w = .ok z w) ∧ VR P w gh st.ob (indexAddrV P st t x y).2 z := by
  unfold indexAddrV at hs ⊢
  split at hs
  case h_2 => exact hs.elim
  rename_i k i
  have h2 := hy.sc_inv; subst h2
  cases hx <;> (try simp only at hs ⊢) <;> try exact hs.elim
  case imm e es hr =>
    obtain ⟨he, h0, h1⟩ := hs
    have hu := elT_some he
    have hsp := hpos e he
    cases hr with
    | row U hl hm hsz hA hU =>
      obtain ⟨ad, rfl, hspot, hS, hc⟩ := hA (by omega)
      have hlt : i.toNat < es.length := by omega
      obtain ⟨b, f, s⟩ := ad
      simp only at hspot hS hc
      subst hspot
      refine ⟨_, fun w => run_indexAt w hu b f es.length _ k i h0 h1 hsp, ?_⟩
      have := VR.ip (P := P) (w := w) (gh := gh) (ob := st.ob) (ch := es.getD i.toNat []) (j := 0) (b := b) (f := f + i.toNat * szT P e) (fun q => U i.toNat q) hS (fun q d hd => by
        have hcd : cellAt es i.toNat q = some d := by
          unfold cellAt
          rw [List.getElem?_eq_getElem hlt]
          simpa [List.getD, List.getElem?_eq_getElem hlt] using hd
        exact ⟨by rw [Nat.add_assoc]; exact hc _ _ _ hcd, hU _ _ _ hcd⟩)
      simpa using this
  case ref o n pth x0 e es A c hx0 hn hle =>
    have hsub := hn.sub
    simp only [hx0, Option.bind_some, hsub] at hs ⊢
    obtain ⟨he, h0, h1⟩ := hs
    have hu := elT_some he
    have hsp := hpos e he
    obtain ⟨v', F', hn', how, _⟩ := (h.obs o _ hx0).focus hsub
    obtain ⟨_, rfl⟩ := hn.fn hn'
    cases how with
    | row xs G own hsz h1' hx' dis nb =>
      obtain ⟨g, cap, he', hcc, hm, hcell, _⟩ := ownsRow_cell own (by omega)
      cases he'
      refine ⟨_, fun w => run_indexAt w hu g 0 n _ k i h0 h1 hsp, ?_⟩
      have := VR.rp (P := P) (w := w) (gh := gh) (ob := st.ob) (i := i.toNat) (j := 0) hx0 hn
      simpa using this

/-- The elements of rows have cells. -/
def Sized (P : Program) : Prop := ∀ t e, elT P t = some e → 0 < szT P e

theorem pure_all (hz : Sized P) (h : Rep P C X st a w gh) {o : Oper} {s : Prop} {v : V} (hp : aPure P o st = some (s, v)) (hs : s) (hnl : ∀ t x, o.op ≠ .load t x) :
    ∃ y, (∀ w : World, (execOp a.eval o).run P w = .ok (.value y) w) ∧ VR P w gh st.ob v y := by
  obtain ⟨dst, op, type, pos, after, guard⟩ := o
  cases op <;> simp only [aPure] at hp <;> try cases hp
  case move x => exact ⟨_, fun w => by simp [execOp], (h.ev x).use hs⟩
  case pick c x y =>
    obtain ⟨h1, h2⟩ := hs
    obtain ⟨t, ht, hv⟩ := pick_sound (h.use c h1) (h.ev x) (h.ev y) h2
    exact ⟨_, fun w => by simp [execOp, ht, asBool], hv⟩
  case load t x => exact absurd rfl (hnl t x)
  case nilCheck x =>
    obtain ⟨h1, h2⟩ := hs
    obtain ⟨⟨b, hb⟩, he⟩ := nil_sound (h.use x h1) h2
    refine ⟨a.eval x, fun w => by simp [execOp, hb], ?_⟩
    rw [he]; exact h.use x h1
  case binOp op t x y t2 =>
    obtain ⟨h1, h2, h3⟩ := hs
    obtain ⟨r, hr, hv, ho, hn⟩ := bin_sound (h.use x h1) (h.use y h2) h3
    exact ⟨r, fun w => by simp [execOp, Sem.run_bind, eqGuard_ok ho hn, hr], hv⟩
  case unOp op t x =>
    obtain ⟨h1, h2⟩ := hs
    obtain ⟨r, hr, hv⟩ := un_sound (P := P) (h.use x h1) h2
    exact ⟨r, fun w => by simp [execOp, Sem.run_bind, hr], hv⟩
  case convert s t x =>
    split at hp
    · cases hp
    cases hp
    obtain ⟨h1, h2⟩ := hs
    obtain ⟨r, hr, hv⟩ := conv_sound (P := P) (h.use x h1) h2
    exact ⟨r, fun w => by simp [execOp, Sem.run_bind, hr], hv⟩
  case fieldAddr s x f =>
    obtain ⟨h1, h2⟩ := hs
    obtain ⟨r, hr, hv⟩ := fieldAddr_sound (P := P) (h.use x h1) h2
    exact ⟨r, fun w => by simp [execOp, Sem.run_bind, hr], hv⟩
  case field s x f =>
    obtain ⟨h1, h2⟩ := hs
    obtain ⟨r, hr, hv⟩ := field_sound (P := P) (h.use x h1) h2
    exact ⟨r, fun w => by simp [execOp, Sem.run_bind, hr], hv⟩
  case indexAddr t x y =>
    obtain ⟨h1, h2, h3⟩ := hs
    obtain ⟨r, hr, hv⟩ := indexAddr_sound (fun e => by omega) h (h.use x h1) (h.use y h2) h3 (hz t)
    exact ⟨r, fun w => by simp [execOp, Sem.run_bind, hr], hv⟩
  case index t x y =>
    obtain ⟨h1, h2, h3⟩ := hs
    obtain ⟨r, hr, hv⟩ := index_sound (P := P) (h.use x h1) (h.use y h2) h3
    exact ⟨r, fun w => by simp [execOp, Sem.run_bind, hr], hv⟩
  case extract x i =>
    obtain ⟨h1, h2⟩ := hs
    obtain ⟨r, hr, hv⟩ := extract_sound (P := P) (h.use x h1) h2
    exact ⟨r, fun w => by simp [execOp, Sem.run_bind, hr], hv⟩
  case call c =>
    obtain ⟨callee, args, argTypes⟩ := c
    cases callee <;> simp only at hp <;> try cases hp
    rename_i b
    cases b <;> simp only at hp <;> try cases hp
    case len =>
      split at hp
      · rename_i x t r hx ht
        simp only [Option.some.injEq, Prod.mk.injEq] at hp
        obtain ⟨rfl, rfl⟩ := hp
        obtain ⟨h1, h2⟩ := hs
        have ha : args = #[x] := Array.toList_inj.1 (by simpa using hx)
        have hat : argTypes[0]? = some t := by rw [← Array.getElem?_toList, ht]; rfl
        obtain ⟨y, hr, hv⟩ := len_sound (P := P) (ty := type) (h.use x h1) h2 hat
        exact ⟨y, fun w => by simp [execOp, resolve, invoke, builtin, ha, Sem.run_bind, hr], hv⟩
      · cases hp
    case min =>
      split at hp
      · rename_i x y hx
        simp only [Option.some.injEq, Prod.mk.injEq] at hp
        obtain ⟨rfl, rfl⟩ := hp
        obtain ⟨h1, h2, h3⟩ := hs
        have ha : args = #[x, y] := Array.toList_inj.1 (by simpa using hx)
        obtain ⟨z, hr, hv⟩ := min_sound (P := P) (lo := true) (r := argTypes) (ty := type) (h.use x h1) (h.use y h2) h3
        exact ⟨z, fun w => by simp only [if_true] at hr; simp [execOp, resolve, invoke, builtin, ha, Sem.run_bind, hr], hv⟩
      · cases hp
    case max =>
      split at hp
      · rename_i x y hx
        simp only [Option.some.injEq, Prod.mk.injEq] at hp
        obtain ⟨rfl, rfl⟩ := hp
        obtain ⟨h1, h2, h3⟩ := hs
        have ha : args = #[x, y] := Array.toList_inj.1 (by simpa using hx)
        obtain ⟨z, hr, hv⟩ := min_sound (P := P) (lo := false) (r := argTypes) (ty := type) (h.use x h1) (h.use y h2) h3
        exact ⟨z, fun w => by simp only [Bool.false_eq_true, if_false] at hr; simp [execOp, resolve, invoke, builtin, ha, Sem.run_bind, hr], hv⟩
      · cases hp

theorem pure_sound (hz : Sized P) (h : Rep P C X st a w gh) {o : Oper} {s : Prop} {v : V} (hp : aPure P o st = some (s, v)) (hs : s) :
    ∃ y, (execOp a.eval o).run P w = .ok (.value y) w ∧ VR P w gh st.ob v y := by
  by_cases hl : ∃ t x, o.op = .load t x
  · obtain ⟨t, x, ho⟩ := hl
    simp only [aPure, ho, Option.some.injEq, Prod.mk.injEq] at hp
    obtain ⟨rfl, rfl⟩ := hp
    obtain ⟨h1, h2⟩ := hs
    obtain ⟨y, hr, hv⟩ := load_sound h (h.use x h1) h2
    exact ⟨y, by simp [execOp, ho, Sem.run_bind, hr], hv⟩
  · obtain ⟨y, hr, hv⟩ := pure_all hz h hp hs (fun t x e => hl ⟨t, x, e⟩)
    exact ⟨y, hr w, hv⟩
end
end Go.Proofs.Ytldniggehdpheaa.AW

namespace Go.Proofs.Ytldniggehdpheaa.AW
open Go.RowKit
set_option linter.unusedSimpArgs false
set_option linter.unusedVariables false
section
variable {P : Program} {w w1 : World} {C : Cx} {X : Nat → Prop} {gh : Gh} {st : St} {a : Act} {v : V} {u : Value} {ob : List (Nat × Ob)}

theorem cell_same {x : Addr} (h : w1.heap[x.block]? = w.heap[x.block]?) : w1.cell? x = w.cell? x := World.cell?_of_block h

theorem Ow.nav {d : D} {v : Value} {F : Nat → Prop} {S : Nat → Prop} {p : List (Nat × Nat)} {d2 : D} {v2 : Value} (h : Ow P w S d v F) (hn : Nav P w d v p d2 v2) (hF : ∀ k, F k → w1.heap[k]? = w.heap[k]?) : Nav P w1 d v p d2 v2 := by
  induction hn generalizing F with
  | nil => exact .nil
  | @cons e es ad l c i j d1 d2 v1 v2 p hc hw hn ih =>
    cases h with
    | row xs G own hsz h1 hx dis nb =>
      have hlt := off_lt (cellAt_lt hc) (cellAt_len hc hsz)
      obtain ⟨g, cap, he, hcc, hm, hcell, _⟩ := ownsRow_cell own (by have := cellAt_lt hc; omega)
      cases he
      have hv1 : v1 = xs.getD (i * szT P e + j) undef := by
        have h2 := (hcell _ hlt).trans (getD_of_lt (by rw [own.1]; exact hlt))
        simp only [Nat.zero_add] at hw
        rw [hw] at h2; cases h2; rfl
      subst hv1
      exact .cons hc ((cell_same (x := ⟨g, _, none⟩) (hF g (Or.inl rfl))).trans hw) (ih (hx i j d1 hc) (fun k hk => hF k (Or.inr ⟨i, j, d1, hc, hk⟩)))

theorem ObR.navO {o : Nat} {x : Ob} {p : List (Nat × Nat)} {d2 : D} {v2 : Value} (h : ObR P w gh o x) (hn : NavO P w gh o x p d2 v2) (hF : ∀ k, gh.F o k → w1.heap[k]? = w.heap[k]?) : NavO P w1 gh o x p d2 v2 := by
  cases h with
  | row h => exact h.nav hn hF
  | box xs G hb hl h1 hc hx dis nb hFF =>
    cases p with
    | nil => exact hn
    | cons ij p =>
      obtain ⟨i, j⟩ := ij
      obtain ⟨d1, v1, e1, e2, e3⟩ := hn
      have hj : j < xs.length := by rw [hl]; exact (List.getElem?_eq_some_iff.1 e1).1
      have hv : v1 = xs.getD j undef := by
        have := (hc j hj).trans (getD_of_lt hj)
        rw [e2] at this; cases this; rfl
      subst hv
      exact ⟨d1, _, e1, (cell_same (x := ⟨gh.bb o, _, none⟩) (hF _ ((hFF _).2 (Or.inl rfl)))).trans e2, (hx j d1 e1).nav e3 (fun k hk => hF k ((hFF k).2 (Or.inr ⟨j, d1, e1, hk⟩)))⟩

theorem ObR.world {o : Nat} {x : Ob} (h : ObR P w gh o x) (hF : ∀ k, gh.F o k → w1.heap[k]? = w.heap[k]?) (hS : ∀ k, gh.S k → w1.heap[k]? = w.heap[k]?) : ObR P w1 gh o x := by
  cases h with
  | row h => exact .row (h.move hF hS)
  | box xs G hb hl h1 hc hx dis nb hFF =>
    refine .box xs G ?_ hl h1 (fun j hj => (cell_same (x := ⟨gh.bb o, _, none⟩) (hF _ ((hFF _).2 (Or.inl rfl)))).trans (hc j hj)) (fun j d hd => (hx j d hd).move (fun k hk => hF k ((hFF k).2 (Or.inr ⟨j, d, hd, hk⟩))) hS) dis nb hFF
    obtain ⟨cur, ty, hb⟩ := hb
    exact ⟨cur, ty, (hF _ ((hFF _).2 (Or.inl rfl))).trans hb⟩

theorem ObR.lt {o : Nat} {x : Ob} (h : ObR P w gh o x) : ∀ k, gh.F o k → k < w.heap.size := by
  cases h with
  | row h => exact h.lt
  | box xs G hb hl h1 hc hx dis nb hFF =>
    intro k hk
    rcases (hFF k).1 hk with rfl | ⟨j, d, hd, hk⟩
    · obtain ⟨cur, ty, hb⟩ := hb
      exact (Array.getElem?_eq_some_iff.1 hb).1
    · exact (hx j d hd).lt k hk

/-- A slot's value stands where the blocks of the objects and of what is looked at stand. -/
theorem VR.world (h : VR P w gh ob v u) (hob : ∀ o x, look ob o = some x → ObR P w gh o x) (hF : ∀ o x k, look ob o = some x → gh.F o k → w1.heap[k]? = w.heap[k]?) (hS : ∀ k, gh.S k → w1.heap[k]? = w.heap[k]?) : VR P w1 gh ob v u := by
  induction h with
  | dead => exact .dead
  | und => exact .und
  | sc h => exact .sc h
  | nil => exact .nil
  | imm h => exact .imm (h.move hS)
  | ref hx hn hle => exact .ref hx ((hob _ _ hx).navO hn (fun k hk => hF _ _ k hx hk)) hle
  | bp hx => exact .bp hx
  | rp hx hn => exact .rp hx ((hob _ _ hx).navO hn (fun k hk => hF _ _ k hx hk))
  | ip U hs h => exact .ip U hs fun q d hd => ⟨(cell_same (x := ⟨_, _, none⟩) (hS _ hs)).trans (h q d hd).1, (h q d hd).2.move hS⟩
  | clo h => exact .clo (h.move hS (fun _ hk => hk))
  | agg hl h1 h ih => exact .agg hl h1 ih
  | tup hl h ih => exact .tup hl ih
  | cond ht hf ih => exact .cond ih hf

theorem keptBut_old {a c : World} {may : MemPlace → Prop} (h : a.keptBut c (fun p => may p ∨ a.heap.size ≤ p.block)) : a.keptBut c may := by
  refine ⟨h.1, h.2.1, fun i hi => ?_⟩
  have x := h.2.2 i hi
  cases ha : a.heap[i]? with
  | none => simp only [ha] at x; simpa [ha] using x
  | some oa =>
    cases hc : c.heap[i]? with
    | none => rw [ha, hc] at x; cases oa <;> simp at x
    | some oc =>
      rw [ha, hc] at x
      cases oa <;> cases oc <;> simp only at x ⊢ <;> try exact x
      case cells.cells =>
        obtain ⟨t1, t2, t3, t4⟩ := x
        exact ⟨t1, t2, t3, fun j hj => t4 j (fun hm => hm.elim hj (fun hm => by simp only [MemPlace.block] at hm; omega))⟩
      case map.map =>
        rcases x with (x | x) | x
        · exact Or.inl x
        · simp only [MemPlace.block] at x; omega
        · exact Or.inr x

/-- Memory has turned where nothing known lies. -/
theorem Rep.world (h : Rep P C X st a w gh) (hsz : w.heap.size ≤ w1.heap.size) (hF : ∀ o x k, look st.ob o = some x → gh.F o k → w1.heap[k]? = w.heap[k]?) (hS : ∀ k, gh.S k → w1.heap[k]? = w.heap[k]?)
    (hk : w.keptBut w1 (fun p => ∃ b f, p = .cell b f ∧ (C.w0.heap.size ≤ b ∨ C.may b f))) : Rep P C X st a w1 gh where
  obs := fun o b hb => (h.obs o b hb).world (fun k hk => hF o b k hb hk) hS
  dis := h.dis
  sS := fun k hk => Nat.lt_of_lt_of_le (h.sS k hk) hsz
  nS := h.nS
  wrR := h.wrR
  wrB := h.wrB
  wrC := h.wrC
  kept := by
    have h0 := h.kept
    refine keptBut_old (World.keptBut_trans (World.keptBut_mono (fun p hp => Or.inl hp) h0) (World.keptBut_mono (fun p hp => ?_) hk))
    obtain ⟨b, f, rfl, hb | hb⟩ := hp
    · exact Or.inr hb
    · exact Or.inl ⟨b, f, rfl, hb⟩
  pins := h.pins
  tms := fun t => (h.tms t).world h.obs hF hS
  nt := h.nt
  dfs := h.dfs
  xl := fun k hk => Nat.lt_of_lt_of_le (h.xl k hk) hsz
  xS := h.xS
  xF := h.xF
  xW := h.xW
  s0S := h.s0S
  sZ := h.sZ

theorem heap_alloc_lt (w : World) (o : Obj) {k : Nat} (h : k < w.heap.size) : (w.alloc o).heap[k]? = w.heap[k]? := heap_alloc_old w o k h

/-- A new block. -/
theorem Rep.alloc (h : Rep P C X st a w gh) (o : Obj) : Rep P C X st a (w.alloc o) gh :=
  h.world (by simp) (fun o' x k hx hk => heap_alloc_lt w o ((h.obs o' x hx).lt k hk)) (fun k hk => heap_alloc_lt w o (h.sS k hk)) (World.keptBut_alloc w o _)

theorem Rep.drew (h : Rep P C X st a w gh) : Rep P C X st a w.drew gh :=
  h.world (Nat.le_refl _) (fun _ _ _ _ _ => rfl) (fun _ _ => rfl) ((World.keptBut_refl w _).congr rfl rfl (fun _ _ => rfl))

/-- A block is taken in hand that nobody has. -/
theorem Rep.hold (h : Rep P C X st a w gh) {b : Nat} (hb : b < w.heap.size) (hS : ¬ gh.S b) (hF : ∀ o x, look st.ob o = some x → ¬ gh.F o b) (hw : C.w0.heap.size ≤ b ∨ ∀ f, C.may b f) : Rep P C (fun k => X k ∨ k = b) st a w gh where
  obs := h.obs
  dis := h.dis
  sS := h.sS
  nS := h.nS
  wrR := h.wrR
  wrB := h.wrB
  wrC := h.wrC
  kept := h.kept
  pins := h.pins
  tms := h.tms
  nt := h.nt
  dfs := h.dfs
  xl := fun k hk => hk.elim (h.xl k) (fun e => e ▸ hb)
  xS := fun k hk => hk.elim (h.xS k) (fun e => e ▸ hS)
  xF := fun o b' k ho hk => hk.elim (h.xF o b' k ho) (fun e => e ▸ hF o b' ho)
  xW := fun k hk => hk.elim (h.xW k) (fun e => e ▸ hw)
  s0S := h.s0S
  sZ := h.sZ

theorem Rep.size (h : Rep P C X st a w gh) : C.w0.heap.size ≤ w.heap.size := h.kept.size

/-- A new block, taken in hand. -/
theorem Rep.made (h : Rep P C X st a w gh) (o : Obj) : Rep P C (fun k => X k ∨ k = w.heap.size) st a (w.alloc o) gh :=
  (h.alloc o).hold (by simp) (fun hk => absurd (h.sS _ hk) (Nat.lt_irrefl _)) (fun o' x hx hk => absurd ((h.obs o' x hx).lt _ hk) (Nat.lt_irrefl _)) (Or.inl h.size)

/-- What is in hand, less. -/
theorem Rep.less {X' : Nat → Prop} (h : Rep P C X st a w gh) (hX : ∀ k, X' k → X k) : Rep P C X' st a w gh where
  obs := h.obs
  dis := h.dis
  sS := h.sS
  nS := h.nS
  wrR := h.wrR
  wrB := h.wrB
  wrC := h.wrC
  kept := h.kept
  pins := h.pins
  tms := h.tms
  nt := h.nt
  dfs := h.dfs
  xl := fun k hk => h.xl k (hX k hk)
  xS := fun k hk => h.xS k (hX k hk)
  xF := fun o b k ho hk => h.xF o b k ho (hX k hk)
  xW := fun k hk => h.xW k (hX k hk)
  s0S := h.s0S
  sZ := h.sZ

theorem killL_get (k : Nat) (vs : List V) (i : Nat) : (killL k vs)[i]? = (vs[i]?).map (killV k) := by
  induction vs generalizing i with
  | nil => simp [killL]
  | cons v r ih => cases i <;> simp [killL, ih]
theorem killL_length (k : Nat) (vs : List V) : (killL k vs).length = vs.length := by
  induction vs with
  | nil => rfl
  | cons v r ih => simp [killL, ih]

theorem VR.kill (h : VR P w gh ob v u) (o : Nat) : VR P w gh (drop ob o) (killV o v) u := by
  induction h with
  | dead => exact .dead
  | und => exact .und
  | sc h => exact .sc h
  | nil => exact .nil
  | imm h => exact .imm h
  | @ref o' n p x e es A c hx hn hle =>
    simp only [killV]
    by_cases e1 : o' = o
    · rw [if_pos e1]; exact .dead
    · rw [if_neg e1]; exact .ref (by rw [look_drop, if_neg (fun e => e1 e.symm)]; exact hx) hn hle
  | @bp o' j cs hx =>
    simp only [killV]
    by_cases e1 : o' = o
    · rw [if_pos e1]; exact .dead
    · rw [if_neg e1]; exact .bp (by rw [look_drop, if_neg (fun e => e1 e.symm)]; exact hx)
  | @rp o' i j p x e es ad c hx hn =>
    simp only [killV]
    by_cases e1 : o' = o
    · rw [if_pos e1]; exact .dead
    · rw [if_neg e1]; exact .rp (by rw [look_drop, if_neg (fun e => e1 e.symm)]; exact hx) hn
  | ip U hs h => exact .ip U hs h
  | clo h => exact .clo h
  | agg hl h1 h ih =>
    simp only [killV]
    refine .agg (by rw [killL_length]; exact hl) h1 (fun i v' hv' => ?_)
    rw [killL_get] at hv'
    obtain ⟨v0, hv0, rfl⟩ := Option.map_eq_some_iff.1 hv'
    exact ih i v0 hv0
  | tup hl h ih =>
    simp only [killV]
    refine .tup (by rw [killL_length]; exact hl) (fun i v' hv' => ?_)
    rw [killL_get] at hv'
    obtain ⟨v0, hv0, rfl⟩ := Option.map_eq_some_iff.1 hv'
    exact ih i v0 hv0
  | cond ht hf ih =>
    simp only [killV]
    exact .cond ih hf

theorem St.get_kill (st : St) (o t : Nat) : (st.kill o).get t = killV o (st.get t) := by
  unfold St.get St.kill
  simp only [look_mapT]
  cases look st.tm t <;> simp [killV]

/-- A row is taken in hand: it is no object any more. -/
theorem Rep.take (h : Rep P C X st a w gh) {o : Nat} {e : TypeId} {es : List (List D)} (ho : look st.ob o = some (.row e es)) :
    Rep P C (fun k => X k ∨ gh.F o k) (st.kill o) a w gh where
  obs := fun o' b hb => by
    rw [St.kill, look_drop] at hb
    split at hb
    · cases hb
    · exact h.obs o' b hb
  dis := fun o1 o2 b1 b2 k h1 h2 hk1 hk2 => by
    rw [St.kill, look_drop] at h1 h2
    split at h1; · cases h1
    split at h2; · cases h2
    exact h.dis o1 o2 b1 b2 k h1 h2 hk1 hk2
  sS := h.sS
  nS := fun o' b k hb hk => by
    rw [St.kill, look_drop] at hb
    split at hb; · cases hb
    exact h.nS o' b k hb hk
  wrR := fun o' e' es' k hb hk => by
    rw [St.kill, look_drop] at hb
    split at hb; · cases hb
    exact h.wrR o' e' es' k hb hk
  wrB := fun o' cs k hb hk => by
    rw [St.kill, look_drop] at hb
    split at hb; · cases hb
    exact h.wrB o' cs k hb hk
  wrC := fun o' cs j hb hj => by
    rw [St.kill, look_drop] at hb
    split at hb; · cases hb
    exact h.wrC o' cs j hb hj
  kept := h.kept
  pins := fun o' x hx hn => by
    rw [St.kill, look_drop] at hn
    split at hn; · exact absurd rfl hn
    exact h.pins o' x hx hn
  tms := fun t => by rw [St.get_kill]; exact (h.tms t).kill o
  nt := h.nt
  dfs := h.dfs
  xl := fun k hk => hk.elim (h.xl k) (fun hk => (h.obs o _ ho).lt k hk)
  xS := fun k hk => hk.elim (h.xS k) (fun hk => h.nS o _ k ho hk)
  xF := fun o' b k hb hk => by
    rw [St.kill, look_drop] at hb
    split at hb
    · cases hb
    · rename_i hne
      rcases hk with hk | hk
      · exact h.xF o' b k hb hk
      · exact fun hk' => hne (h.dis o o' _ b k ho hb hk hk')
  xW := fun k hk => hk.elim (h.xW k) (fun hk => h.wrR o e es k ho hk)
  s0S := h.s0S
  sZ := h.sZ

def Gh.upd (gh : Gh) (o : Nat) (v : Value) (b f : Nat) (F : Nat → Prop) : Gh where
  S := gh.S
  hv := fun k => if k = o then v else gh.hv k
  bb := fun k => if k = o then b else gh.bb k
  bo := fun k => if k = o then f else gh.bo k
  F := fun k => if k = o then F else gh.F k

theorem NavO.upd {o o' : Nat} {x : Ob} {p : List (Nat × Nat)} {d : D} {v' : Value} {b f : Nat} {F : Nat → Prop} (h : NavO P w gh o' x p d u) (hne : o' ≠ o) : NavO P w (gh.upd o v' b f F) o' x p d u := by
  unfold NavO at h ⊢
  split <;> simp_all [Gh.upd]

theorem VR.put (h : VR P w gh ob v u) {o : Nat} {x : Ob} {v' : Value} {b f : Nat} {F : Nat → Prop} (ho : look ob o = none) : VR P w (gh.upd o v' b f F) ((o, x) :: ob) v u := by
  have ne : ∀ {o' : Nat} {y : Ob}, look ob o' = some y → o' ≠ o := fun {o' y} hy e => by subst e; rw [ho] at hy; cases hy
  induction h with
  | dead => exact .dead
  | und => exact .und
  | sc h => exact .sc h
  | nil => exact .nil
  | imm h => exact .imm h
  | ref hx hn hle => exact .ref (by rw [look_cons_ne _ _ (ne hx)]; exact hx) (hn.upd (ne hx)) hle
  | @bp o' j cs hx =>
    have := VR.bp (P := P) (w := w) (gh := gh.upd o v' b f F) (ob := (o, x) :: ob) (o := o') (j := j) (cs := cs) (by rw [look_cons_ne _ _ (ne hx)]; exact hx)
    simpa [Gh.upd, ne hx] using this
  | rp hx hn => exact .rp (by rw [look_cons_ne _ _ (ne hx)]; exact hx) (hn.upd (ne hx))
  | ip U hs h => exact .ip U hs h
  | clo h => exact .clo h
  | agg hl h1 h ih => exact .agg hl h1 ih
  | tup hl h ih => exact .tup hl ih
  | cond ht hf ih => exact .cond ih hf

theorem ObR.upd {o o' : Nat} {x : Ob} {v' : Value} {b f : Nat} {F : Nat → Prop} (h : ObR P w gh o' x) (hne : o' ≠ o) : ObR P w (gh.upd o v' b f F) o' x := by
  cases h with
  | row h => exact .row (by simpa [Gh.upd, hne] using h)
  | box xs G hb hl h1 hc hx dis nb hFF => exact .box xs G (by simpa [Gh.upd, hne] using hb) hl h1 (by simpa [Gh.upd, hne] using hc) hx dis (by simpa [Gh.upd, hne] using nb) (by simpa [Gh.upd, hne] using hFF)

/-- What is in hand is laid down as an object. -/
theorem Rep.lay (h : Rep P C X st a w gh) {o : Nat} {x : Ob} {v' : Value} {b f : Nat} {F : Nat → Prop} (ho : look st.ob o = none) (hp : C.pin o = none)
    (hx : ObR P w (gh.upd o v' b f F) o x) (hF : ∀ k, F k → X k) : Rep P C (fun k => X k ∧ ¬ F k) (st.put o x) a w (gh.upd o v' b f F) where
  obs := fun o' y hy => by
    rw [St.put] at hy
    by_cases e : o' = o
    · subst e; rw [look_cons_self] at hy; cases hy; exact hx
    · rw [look_cons_ne _ _ e] at hy; exact (h.obs o' y hy).upd e
  dis := fun o1 o2 b1 b2 k h1 h2 hk1 hk2 => by
    rw [St.put] at h1 h2
    by_cases e1 : o1 = o <;> by_cases e2 : o2 = o
    · rw [e1, e2]
    · rw [look_cons_ne _ _ e2] at h2
      simp only [Gh.upd, e1, e2, if_true, if_false] at hk1 hk2
      exact absurd hk2 (h.xF o2 b2 k h2 (hF k hk1))
    · rw [look_cons_ne _ _ e1] at h1
      simp only [Gh.upd, e1, e2, if_true, if_false] at hk1 hk2
      exact absurd hk1 (h.xF o1 b1 k h1 (hF k hk2))
    · rw [look_cons_ne _ _ e1] at h1; rw [look_cons_ne _ _ e2] at h2
      simp only [Gh.upd, e1, e2, if_false] at hk1 hk2
      exact h.dis o1 o2 b1 b2 k h1 h2 hk1 hk2
  sS := h.sS
  nS := fun o' y k hy hk => by
    rw [St.put] at hy
    by_cases e : o' = o
    · simp only [Gh.upd, e, if_true] at hk; exact h.xS k (hF k hk)
    · rw [look_cons_ne _ _ e] at hy; simp only [Gh.upd, e, if_false] at hk; exact h.nS o' y k hy hk
  wrR := fun o' e' es' k hy hk => by
    rw [St.put] at hy
    by_cases e : o' = o
    · simp only [Gh.upd, e, if_true] at hk; exact h.xW k (hF k hk)
    · rw [look_cons_ne _ _ e] at hy; simp only [Gh.upd, e, if_false] at hk; exact h.wrR o' e' es' k hy hk
  wrB := fun o' cs k hy hk hne => by
    rw [St.put] at hy
    by_cases e : o' = o
    · simp only [Gh.upd, e, if_true] at hk; exact h.xW k (hF k hk)
    · rw [look_cons_ne _ _ e] at hy; simp only [Gh.upd, e, if_false] at hk hne; exact h.wrB o' cs k hy hk hne
  wrC := fun o' cs j hy hj => by
    rw [St.put] at hy
    by_cases e : o' = o
    · subst e
      rw [look_cons_self] at hy; cases hy
      cases hx with
      | box xs G hb hl h1 hc hx dis nb hFF =>
        have : (gh.upd o' v' b f F).F o' ((gh.upd o' v' b f F).bb o') := (hFF _).2 (Or.inl rfl)
        have h2 : F b := by simpa [Gh.upd] using this
        have := h.xW b (hF b h2)
        simp only [Gh.upd, if_true]
        exact this.elim Or.inl (fun q => Or.inr (q _))
    · rw [look_cons_ne _ _ e] at hy; simp only [Gh.upd, e, if_false]; exact h.wrC o' cs j hy hj
  kept := h.kept
  pins := fun o' y hy hn => by
    rw [St.put] at hn
    by_cases e : o' = o
    · subst e; rw [hp] at hy; cases hy
    · rw [look_cons_ne _ _ e] at hn; simp only [Gh.upd, e, if_false]; exact h.pins o' y hy hn
  tms := fun t => (h.tms t).put ho
  nt := h.nt
  dfs := h.dfs
  xl := fun k hk => h.xl k hk.1
  xS := fun k hk => h.xS k hk.1
  xF := fun o' y k hy hk => by
    rw [St.put] at hy
    by_cases e : o' = o
    · simp only [Gh.upd, e, if_true]; exact hk.2
    · rw [look_cons_ne _ _ e] at hy; simp only [Gh.upd, e, if_false]; exact h.xF o' y k hy hk.1
  xW := fun k hk => h.xW k hk.1
  s0S := h.s0S
  sZ := h.sZ
end
end Go.Proofs.Ytldniggehdpheaa.AW

namespace Go.Proofs.Ytldniggehdpheaa.AW
open Go.RowKit
set_option linter.unusedSimpArgs false
set_option linter.unusedVariables false

def St.swap (st : St) (o : Nat) (x : Ob) : St := { st with tm := mapT (killN o) st.tm, ob := (o, x) :: drop st.ob o }

/-- Alike but for what they hold. -/
def Ob.like : Ob → Ob → Prop
  | .row e es, .row e' es' => e = e' ∧ es.length = es'.length
  | .box cs, .box cs' => cs.length = cs'.length
  | _, _ => False

section
variable {P : Program} {w w1 : World} {C : Cx} {X : Nat → Prop} {gh : Gh} {st : St} {a : Act} {v : V} {u : Value} {ob : List (Nat × Ob)}

theorem killNL_get (k : Nat) (vs : List V) (i : Nat) : (killNL k vs)[i]? = (vs[i]?).map (killN k) := by
  induction vs generalizing i with
  | nil => simp [killNL]
  | cons v r ih => cases i <;> simp [killNL, ih]
theorem killNL_length (k : Nat) (vs : List V) : (killNL k vs).length = vs.length := by
  induction vs with
  | nil => rfl
  | cons v r ih => simp [killNL, ih]

theorem look_swap (st : St) (o o' : Nat) (x : Ob) : look (st.swap o x).ob o' = if o' = o then some x else look st.ob o' := by
  unfold St.swap
  simp only [look]
  by_cases h : o' = o
  · rw [if_pos h, if_pos h]
  · rw [if_neg h, if_neg h, look_drop, if_neg (fun e => h e.symm)]

theorem St.get_swap (st : St) (o t : Nat) (x : Ob) : (st.swap o x).get t = killN o (st.get t) := by
  unfold St.get St.swap
  simp only [look_mapT]
  cases look st.tm t <;> simp [killN]

theorem Gh.upd_self (gh : Gh) (o : Nat) (F : Nat → Prop) : (gh.upd o (gh.hv o) (gh.bb o) (gh.bo o) F).hv = gh.hv ∧ (gh.upd o (gh.hv o) (gh.bb o) (gh.bo o) F).bb = gh.bb ∧ (gh.upd o (gh.hv o) (gh.bb o) (gh.bo o) F).bo = gh.bo := by
  refine ⟨funext fun k => ?_, funext fun k => ?_, funext fun k => ?_⟩ <;> simp only [Gh.upd] <;> split <;> simp_all

theorem NavO.ghc {gh' : Gh} {o : Nat} {x : Ob} {p : List (Nat × Nat)} {d : D} (h : NavO P w gh o x p d u) (h1 : gh'.hv = gh.hv) (h2 : gh'.bb = gh.bb) (h3 : gh'.bo = gh.bo) : NavO P w gh' o x p d u := by
  unfold NavO at h ⊢
  split <;> simp_all

theorem VR.swap {o : Nat} {x x' : Ob} {F : Nat → Prop} {st : St} (h : VR P w gh st.ob v u) (ho : look st.ob o = some x) (hl : x.like x')
    (hob : ∀ o y, look st.ob o = some y → ObR P w gh o y) (hF : ∀ o' y k, o' ≠ o → look st.ob o' = some y → gh.F o' k → w1.heap[k]? = w.heap[k]?) (hS : ∀ k, gh.S k → w1.heap[k]? = w.heap[k]?) :
    VR P w1 (gh.upd o (gh.hv o) (gh.bb o) (gh.bo o) F) (st.swap o x').ob (killN o v) u := by
  obtain ⟨g1, g2, g3⟩ := gh.upd_self o F
  induction h with
  | dead => exact .dead
  | und => exact .und
  | sc h => exact .sc h
  | nil => exact .nil
  | imm h => exact .imm (h.move hS)
  | @ref o' n p y e es A c hx hn hle =>
    by_cases e1 : o' = o
    · subst e1
      rw [ho] at hx; cases hx
      cases p with
      | cons z p => simp only [killN, if_true]; exact .dead
      | nil =>
        cases x with
        | box cs => exact hn.elim
        | row q0 es0 =>
          cases x' with
          | box cs => exact hl.elim
          | row q1 es1 =>
            obtain ⟨hq, hlen⟩ := hl
            simp only [killN]
            have hh : gh.hv o' = .slice A es.length c ∧ D.row false q0 es0 = .row false e es := by
              generalize hd : D.row false q0 es0 = d at hn
              generalize hv : gh.hv o' = y at hn
              simp only [NavO] at hn
              rw [hd, hv] at hn
              cases hn; exact ⟨rfl, rfl⟩
            obtain ⟨hh, hd⟩ := hh
            cases hd
            subst hq
            have hlk : look (st.swap o' (.row e es1)).ob o' = some (.row e es1) := by rw [look_swap, if_pos rfl]
            refine .ref (x := .row e es1) (e := e) (es := es1) hlk ?_ (by omega)
            show Nav P w1 (.row false e es1) ((gh.upd o' (gh.hv o') (gh.bb o') (gh.bo o') F).hv o') [] (.row false e es1) (.slice A es1.length c)
            rw [g1, hh, hlen]
            exact .nil
    · have : killN o (.ref o' p n) = .ref o' p n := by
        cases p <;> simp [killN, e1]
      rw [this]
      exact .ref (by rw [look_swap, if_neg e1]; exact hx) (((hob o' y hx).navO hn (fun k hk => hF o' y k e1 hx hk)).ghc g1 g2 g3) hle
  | @bp o' j cs hx =>
    simp only [killN]
    by_cases e1 : o' = o
    · subst e1
      rw [ho] at hx; cases hx
      cases x' with
      | row => exact hl.elim
      | box cs' =>
        have := VR.bp (P := P) (w := w1) (gh := gh.upd o' (gh.hv o') (gh.bb o') (gh.bo o') F) (ob := (st.swap o' (.box cs')).ob) (o := o') (j := j) (cs := cs') (by rw [look_swap, if_pos rfl])
        rwa [g2, g3] at this
    · have := VR.bp (P := P) (w := w1) (gh := gh.upd o (gh.hv o) (gh.bb o) (gh.bo o) F) (ob := (st.swap o x').ob) (o := o') (j := j) (cs := cs) (by rw [look_swap, if_neg e1]; exact hx)
      rwa [g2, g3] at this
  | @rp o' i j p y e es ad c hx hn =>
    by_cases e1 : o' = o
    · subst e1
      rw [ho] at hx; cases hx
      cases p with
      | cons z p => simp only [killN, if_true]; exact .dead
      | nil =>
        cases x with
        | box cs => exact hn.elim
        | row q0 es0 =>
          cases x' with
          | box cs => exact hl.elim
          | row q1 es1 =>
            obtain ⟨hq, hlen⟩ := hl
            simp only [killN]
            have hh : gh.hv o' = .slice (some ad) es.length c ∧ D.row false q0 es0 = .row false e es := by
              generalize hd : D.row false q0 es0 = d at hn
              generalize hv : gh.hv o' = y at hn
              simp only [NavO] at hn
              rw [hd, hv] at hn
              cases hn; exact ⟨rfl, rfl⟩
            obtain ⟨hh, hd⟩ := hh
            cases hd
            subst hq
            have hlk : look (st.swap o' (.row e es1)).ob o' = some (.row e es1) := by rw [look_swap, if_pos rfl]
            refine .rp (x := .row e es1) (e := e) (es := es1) (c := c) hlk ?_
            show Nav P w1 (.row false e es1) ((gh.upd o' (gh.hv o') (gh.bb o') (gh.bo o') F).hv o') [] (.row false e es1) (.slice (some ad) es1.length c)
            rw [g1, hh, hlen]
            exact .nil
    · have : killN o (.rp o' p i j) = .rp o' p i j := by
        cases p <;> simp [killN, e1]
      rw [this]
      exact .rp (by rw [look_swap, if_neg e1]; exact hx) (((hob o' y hx).navO hn (fun k hk => hF o' y k e1 hx hk)).ghc g1 g2 g3)
  | ip U hs h => exact .ip U hs fun q d hd => ⟨(cell_same (x := ⟨_, _, none⟩) (hS _ hs)).trans (h q d hd).1, (h q d hd).2.move hS⟩
  | clo h => exact .clo (h.move hS (fun _ hk => hk))
  | agg hl' h1 h ih =>
    simp only [killN]
    refine .agg (by rw [killNL_length]; exact hl') h1 (fun i v' hv' => ?_)
    rw [killNL_get] at hv'
    obtain ⟨v0, hv0, rfl⟩ := Option.map_eq_some_iff.1 hv'
    exact ih i v0 hv0
  | tup hl' h ih =>
    simp only [killN]
    refine .tup (by rw [killNL_length]; exact hl') (fun i v' hv' => ?_)
    rw [killNL_get] at hv'
    obtain ⟨v0, hv0, rfl⟩ := Option.map_eq_some_iff.1 hv'
    exact ih i v0 hv0
  | cond ht hf ih =>
    simp only [killN]
    exact .cond ih hf

/-- An object turns into another one at the same place. -/
theorem Rep.swap (h : Rep P C X st a w gh) {o : Nat} {x x' : Ob} {F : Nat → Prop} {X' : Nat → Prop} (ho : look st.ob o = some x) (hl : x.like x')
    (hsz : w.heap.size ≤ w1.heap.size) (hFo : ∀ o' y k, o' ≠ o → look st.ob o' = some y → gh.F o' k → w1.heap[k]? = w.heap[k]?) (hS : ∀ k, gh.S k → w1.heap[k]? = w.heap[k]?)
    (hk : w.keptBut w1 (fun p => ∃ b f, p = .cell b f ∧ (C.w0.heap.size ≤ b ∨ C.may b f)))
    (hx : ObR P w1 (gh.upd o (gh.hv o) (gh.bb o) (gh.bo o) F) o x') (hF : ∀ k, F k → gh.F o k ∨ X k) (hX : ∀ k, X' k → (gh.F o k ∨ X k) ∧ ¬ F k)
    (hbx : ∀ cs k, x = .box cs → X' k → k ≠ gh.bb o) :
    Rep P C X' (st.swap o x') a w1 (gh.upd o (gh.hv o) (gh.bb o) (gh.bo o) F) := by
  obtain ⟨g1, g2, g3⟩ := gh.upd_self o F
  have gF : ∀ o', o' ≠ o → (gh.upd o (gh.hv o) (gh.bb o) (gh.bo o) F).F o' = gh.F o' := fun o' e => by simp [Gh.upd, e]
  have gFo : (gh.upd o (gh.hv o) (gh.bb o) (gh.bo o) F).F o = F := by simp [Gh.upd]
  have hother : ∀ o' y k, o' ≠ o → look st.ob o' = some y → gh.F o' k → ¬ F k := fun o' y k e hy hk hk' => by
    rcases hF k hk' with hk' | hk'
    · exact e (h.dis o' o y x k hy ho hk hk')
    · exact h.xF o' y k hy hk' hk
  have wr : ∀ k, F k → (∀ cs, x = .box cs → k ≠ gh.bb o) → C.w0.heap.size ≤ k ∨ ∀ f, C.may k f := fun k hk hb => by
    rcases hF k hk with hk | hk
    · cases x with
      | row e es => exact h.wrR o e es k ho hk
      | box cs => exact h.wrB o cs k ho hk (hb cs rfl)
    · exact h.xW k hk
  exact {
    obs := fun o' y hy => by
      rw [look_swap] at hy
      by_cases e : o' = o
      · rw [if_pos e] at hy; cases hy; subst e; exact hx
      · rw [if_neg e] at hy
        exact ((h.obs o' y hy).world (fun k hk => hFo o' y k e hy hk) hS).upd e
    dis := fun o1 o2 b1 b2 k h1 h2 hk1 hk2 => by
      rw [look_swap] at h1 h2
      by_cases e1 : o1 = o <;> by_cases e2 : o2 = o
      · rw [e1, e2]
      · rw [if_neg e2] at h2; rw [e1, gFo] at hk1; rw [gF o2 e2] at hk2
        exact absurd hk1 (hother o2 b2 k e2 h2 hk2)
      · rw [if_neg e1] at h1; rw [e2, gFo] at hk2; rw [gF o1 e1] at hk1
        exact absurd hk2 (hother o1 b1 k e1 h1 hk1)
      · rw [if_neg e1] at h1; rw [if_neg e2] at h2; rw [gF o1 e1] at hk1; rw [gF o2 e2] at hk2
        exact h.dis o1 o2 b1 b2 k h1 h2 hk1 hk2
    sS := fun k hk => Nat.lt_of_lt_of_le (h.sS k hk) hsz
    nS := fun o' y k hy hk => by
      rw [look_swap] at hy
      by_cases e : o' = o
      · rw [e, gFo] at hk
        rcases hF k hk with hk | hk
        · exact h.nS o x k ho hk
        · exact h.xS k hk
      · rw [if_neg e] at hy; rw [gF o' e] at hk; exact h.nS o' y k hy hk
    wrR := fun o' e' es' k hy hk => by
      rw [look_swap] at hy
      by_cases e : o' = o
      · rw [e, gFo] at hk
        rw [if_pos e] at hy; cases hy
        exact wr k hk (fun cs hc => by subst hc; exact hl.elim)
      · rw [if_neg e] at hy; rw [gF o' e] at hk; exact h.wrR o' e' es' k hy hk
    wrB := fun o' cs k hy hk hne => by
      rw [look_swap] at hy
      by_cases e : o' = o
      · rw [e, gFo] at hk
        refine wr k hk (fun cs' hc => ?_)
        rw [g2, e] at hne; exact hne
      · rw [if_neg e] at hy; rw [gF o' e] at hk; rw [g2] at hne; exact h.wrB o' cs k hy hk hne
    wrC := fun o' cs j hy hj => by
      rw [look_swap] at hy
      rw [g2, g3]
      by_cases e : o' = o
      · rw [if_pos e] at hy; cases hy
        subst e
        cases x with
        | row => exact hl.elim
        | box cs0 => exact h.wrC o' cs0 j ho (by have : cs0.length = cs.length := hl; omega)
      · rw [if_neg e] at hy; exact h.wrC o' cs j hy hj
    kept := (h.less (X' := X) (fun _ h => h)).kept |> fun h0 => keptBut_old (World.keptBut_trans (World.keptBut_mono (fun p hp => Or.inl hp) h0) (World.keptBut_mono (fun p hp => by
      obtain ⟨b, f, rfl, hb | hb⟩ := hp
      · exact Or.inr hb
      · exact Or.inl ⟨b, f, rfl, hb⟩) hk))
    pins := fun o' y hy hn => by
      rw [look_swap] at hn
      rw [g1, g2, g3]
      refine h.pins o' y hy (fun hn' => hn ?_)
      by_cases e : o' = o
      · subst e; rw [ho] at hn'; cases hn'
      · rw [if_neg e]; exact hn'
    tms := fun t => by rw [St.get_swap]; exact (h.tms t).swap ho hl h.obs hFo hS
    nt := h.nt
    dfs := h.dfs
    xl := fun k hk => by
      rcases (hX k hk).1 with hk | hk
      · exact Nat.lt_of_lt_of_le ((h.obs o x ho).lt k hk) hsz
      · exact Nat.lt_of_lt_of_le (h.xl k hk) hsz
    xS := fun k hk => by
      rcases (hX k hk).1 with hk | hk
      · exact h.nS o x k ho hk
      · exact h.xS k hk
    xF := fun o' y k hy hk => by
      rw [look_swap] at hy
      by_cases e : o' = o
      · rw [e, gFo]; exact (hX k hk).2
      · rw [if_neg e] at hy; rw [gF o' e]
        rcases (hX k hk).1 with hk | hk
        · exact fun hk' => e (h.dis o' o y x k hy ho hk' hk)
        · exact h.xF o' y k hy hk
    s0S := h.s0S
    sZ := h.sZ
    xW := fun k hk => by
      rcases (hX k hk).1 with hk' | hk'
      · cases x with
        | row e es => exact h.wrR o e es k ho hk'
        | box cs => exact h.wrB o cs k ho hk' (hbx cs k rfl hk)
      · exact h.xW k hk' }

/-- A row is taken out of a variable. -/
theorem Rep.hole (h : Rep P C X st a w gh) {o j : Nat} {cs : List D} {e : TypeId} {es : List (List D)} (ho : look st.ob o = some (.box cs)) (hj : cs[j]? = some (.row false e es)) :
    ∃ (gh' : Gh) (F : Nat → Prop) (y : Value), Rep P C (fun k => X k ∨ F k) (st.swap o (.box (cs.set j .dead))) a w gh' ∧ Ow P w gh.S (.row false e es) y F ∧ gh'.S = gh.S ∧ gh'.hv = gh.hv ∧ gh'.bb = gh.bb ∧ gh'.bo = gh.bo ∧ (∀ k, F k → ¬ X k) ∧
      w.cell? ⟨gh.bb o, gh.bo o + j, none⟩ = some y := by
  have hb := h.obs o _ ho
  cases hb with
  | box xs G hb hl h1 hc hx dis nb hFF =>
    obtain ⟨g1, g2, g3⟩ := gh.upd_self o (fun k => gh.F o k ∧ ¬ G j k)
    have hjl : j < cs.length := (List.getElem?_eq_some_iff.1 hj).1
    refine ⟨gh.upd o (gh.hv o) (gh.bb o) (gh.bo o) (fun k => gh.F o k ∧ ¬ G j k), G j, xs.getD j undef, ?_, hx j _ hj, rfl, g1, g2, g3, fun k hk hX => h.xF o _ k ho hX ((hFF k).2 (Or.inr ⟨j, _, hj, hk⟩)), ?_⟩
    · refine h.swap (x' := .box (cs.set j .dead)) ho (by simp [Ob.like]) (Nat.le_refl _) (fun _ _ _ _ _ _ => rfl) (fun _ _ => rfl) (World.keptBut_refl w _) ?_ (fun k hk => Or.inl hk.1) (fun k hk => ?_) (fun cs' k _ hk => ?_)
      · let G' : Nat → Nat → Prop := fun j' k => j' ≠ j ∧ G j' k
        refine .box xs G' (by rw [g2]; exact hb) (by simpa using hl) h1 (by rw [g2, g3]; exact hc) (fun j' d hd => ?_) (fun j1 j2 d1 d2 k hd1 hd2 hk1 hk2 => ?_) (fun j' d k hd hk => ?_) (fun k => ?_)
        · by_cases e' : j' = j
          · subst e'
            rw [List.getElem?_set_self hjl] at hd; cases hd
            exact (Ow.dead (hx j' _ hj).one).congr fun k => ⟨False.elim, fun hk => hk.1 rfl⟩
          · rw [List.getElem?_set_ne (fun e => e' e.symm)] at hd
            exact (hx j' d hd).congr fun k => ⟨fun hk => ⟨e', hk⟩, fun hk => hk.2⟩
        · obtain ⟨n1, hk1⟩ := hk1
          obtain ⟨n2, hk2⟩ := hk2
          rw [List.getElem?_set_ne (fun e => n1 e.symm)] at hd1
          rw [List.getElem?_set_ne (fun e => n2 e.symm)] at hd2
          exact dis j1 j2 d1 d2 k hd1 hd2 hk1 hk2
        · obtain ⟨n1, hk⟩ := hk
          rw [List.getElem?_set_ne (fun e => n1 e.symm)] at hd
          rw [g2]; exact nb j' d k hd hk
        · rw [g2]
          simp only [Gh.upd, if_true]
          constructor
          · rintro ⟨hk, hn⟩
            rcases (hFF k).1 hk with hk | ⟨j', d, hd, hk⟩
            · exact Or.inl hk
            · have e' : j' ≠ j := fun e => hn (e ▸ hk)
              exact Or.inr ⟨j', d, by rw [List.getElem?_set_ne (fun e => e' e.symm)]; exact hd, e', hk⟩
          · rintro (rfl | ⟨j', d, hd, e', hk⟩)
            · exact ⟨(hFF _).2 (Or.inl rfl), fun hk => nb j _ _ hj hk rfl⟩
            · rw [List.getElem?_set_ne (fun e => e' e.symm)] at hd
              exact ⟨(hFF k).2 (Or.inr ⟨j', d, hd, hk⟩), fun hk' => e' (dis j' j d _ k hd hj hk hk')⟩
      · rcases hk with hk | hk
        · exact ⟨Or.inr hk, fun hk' => h.xF o _ k ho hk hk'.1⟩
        · exact ⟨Or.inl ((hFF k).2 (Or.inr ⟨j, _, hj, hk⟩)), fun hk' => hk'.2 hk⟩
      · rcases hk with hk | hk
        · rintro rfl; exact h.xF o _ _ ho hk ((hFF _).2 (Or.inl rfl))
        · exact nb j _ k hj hk
    · have hjx : j < xs.length := by omega
      exact (hc j hjx).trans (getD_of_lt hjx)
end
end Go.Proofs.Ytldniggehdpheaa.AW
