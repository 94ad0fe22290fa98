/- A row grows at its end. No condition. -/
import Derived.Test.YtaodmogcjpainaaDoorA15
namespace Go.Proofs.YtaodmogcjpainaaDoor.AW
open Go.RowKit
set_option linter.unusedSimpArgs false
set_option linter.unusedVariables false

/-- A row's elements; a nil row has none. -/
def rowsD : D → Option (Option TypeId × List (List D))
  | .row _ e es => some (some e, es)
  | .sc (.slice none 0 0) => some (none, [])
  | _ => none

def ownD : D → Bool
  | .row false _ _ => true
  | .sc (.slice none 0 0) => true
  | _ => false

/-- What holds nothing of its own. -/
def freeD : D → Bool
  | .sc _ => true
  | .row true _ _ => true
  | .dead => true
  | _ => false

/-- What is added stays where it is. -/
def stays (v : V) (fs : List (List D)) : Bool := match v with
  | .ref o _ _ => !isAnon o && fs.all (·.all freeD)
  | .imm .. => true
  | _ => false

def aAppend (P : Program) (C : Cx) (st : St) (t : TypeId) (d : Nat) (x y : V) (K : St → Prop) : Prop :=
  (toD st x).1 ∧ (toD (toD st x).2.1 y).1 ∧ ownD (toD st x).2.2 = true ∧ match elT P t, rowsD (toD st x).2.2, rowsD (toD (toD st x).2.1 y).2.2 with
    | some e, some (e1, es), some (e2, fs) => (∀ z, e1 = some z → z = e) ∧ (∀ z, e2 = some z → z = e) ∧ (match y with | .imm .. => fs.all (·.all freeD) = true | _ => True) ∧ (zeroCells P e).map (·.length) = some (szT P e) ∧ es.length + fs.length ≤ 140737488355328 ∧ (es.length + fs.length) * bytesT P e ≤ 140737488355328 ∧ C.pin (anon d) = none ∧
      ev (b := ⟨K⟩) (((bif stays y fs then (toD st x).2.1 else (toD (toD st x).2.1 y).2.1).fresh (anon d) (.row e (es ++ fs))).set d (.ref (anon d) [] (es.length + fs.length)))
    | _, _, _ => False

section
variable {P : Program} {w w1 : World} {C : Cx} {X : Nat → Prop} {gh : Gh} {st : St} {a : Act} {v : V} {u : Value} {ob : List (Nat × Ob)} {S : Nat → Prop}

theorem append_none (w : World) {t ty e : TypeId} {i : TypeInfo} (ht : P.underlying t = some (.slice e)) (hi : P.info? e = some i) {A : Option Addr} {n cap c : Nat} (hle : n ≤ cap) :
    (Builtin.append_ #[t, t] ty #[.slice A n cap, .slice none 0 c]).run P w = .ok (.slice A n cap) w := by
  cases A with
  | none => simp [Builtin.append_, run_underlying ht, sizeOf, typeInfo, hi, Builtin.lenOf, Builtin.firstCells, hle]
  | some ad => simp [Builtin.append_, run_underlying ht, sizeOf, typeInfo, hi, Builtin.lenOf, Builtin.firstCells, hle, storeCells]

theorem free_none {d : D} {F : Nat → Prop} (hf : freeD d = true) (h : Ow P w S d u F) : ∀ k, ¬ F k := by
  cases h with
  | dead => exact fun _ h => h
  | sc => exact fun _ h => h
  | shared => exact fun _ h => h
  | row => simp [freeD] at hf

/-- A row that is one's own, whole, or none. -/
theorem own_row {d : D} {F : Nat → Prop} {e : TypeId} {e1 : Option TypeId} {es : List (List D)} (hpos : 0 < szT P e) (h : Ow P w S d u F) (ho : ownD d = true) (hr : rowsD d = some (e1, es)) (he : ∀ z, e1 = some z → z = e) :
    ∃ (xs : List Value) (H : Nat → Nat → Nat → Prop), w.ownsRow 0 e (szT P e) u es.length xs ∧ (∀ l ∈ es, l.length = szT P e) ∧ (∀ u ∈ xs, u.oneCell' = true) ∧ (∀ i j d, cellAt es i j = some d → Ow P w S d (xs.getD (i * szT P e + j) undef) (H i j)) ∧
      (∀ i j i' j' d d' k, cellAt es i j = some d → cellAt es i' j' = some d' → H i j k → H i' j' k → i = i' ∧ j = j') ∧ (∀ i j d k, cellAt es i j = some d → H i j k → u.ownBlock ≠ some k) ∧ (∀ k, F k ↔ (u.ownBlock = some k ∨ ∃ i j d, cellAt es i j = some d ∧ H i j k)) := by
  cases h with
  | dead => simp [ownD] at ho
  | @sc u h =>
    have e0 : u = .slice none 0 0 ∧ es = [] := by
      unfold rowsD at hr
      split at hr
      · rename_i heq; cases heq
      · rename_i heq; cases heq; simp at hr; exact ⟨rfl, hr.2⟩
      · cases hr
    obtain ⟨rfl, rfl⟩ := e0
    exact ⟨[], fun _ _ _ => False, World.ownsRow_nil w 0 e (szT P e), by simp, by simp, fun i j d hd => by simp [cellAt] at hd, fun i j i' j' d d' k hd => by simp [cellAt] at hd, fun i j d k hd => by simp [cellAt] at hd, fun k => by simp [Value.ownBlock, cellAt]⟩
  | shared => simp [ownD] at ho
  | row xs H own hsz h1 hx dis nb =>
    simp only [rowsD, Option.some.injEq, Prod.mk.injEq] at hr
    obtain ⟨rfl, rfl⟩ := hr
    cases he _ rfl
    exact ⟨xs, H, own, hsz, h1, hx, dis, nb, fun k => Iff.rfl⟩

/-- The elements of a row, be it one's own or not. -/
theorem elems_row {d : D} {F : Nat → Prop} {e : TypeId} {e1 : Option TypeId} {es : List (List D)} (hpos : 0 < szT P e) (h : Ow P w S d u F) (hr : rowsD d = some (e1, es)) (he : ∀ z, e1 = some z → z = e) (hf : (∃ e', d = .row true e' es) → es.all (·.all freeD) = true) :
    ∃ (A : Option Addr) (c : Nat) (xs : List Value) (H : Nat → Nat → Nat → Prop), u = .slice A es.length c ∧ xs.length = es.length * szT P e ∧ (0 < es.length → ∃ ad, A = some ad ∧ ∀ j y, xs[j]? = some y → w.cell? (ad.add j) = some y) ∧ (∀ l ∈ es, l.length = szT P e) ∧ (∀ u ∈ xs, u.oneCell' = true) ∧
      (∀ i j d, cellAt es i j = some d → Ow P w S d (xs.getD (i * szT P e + j) undef) (H i j)) ∧
      (∀ i j i' j' d d' k, cellAt es i j = some d → cellAt es i' j' = some d' → H i j k → H i' j' k → i = i' ∧ j = j') ∧ (∀ i j d k, cellAt es i j = some d → H i j k → F k) := by
  have hnil : es = [] → ∀ c, u = .slice none 0 c → ∃ (A : Option Addr) (c : Nat) (xs : List Value) (H : Nat → Nat → Nat → Prop), u = .slice A es.length c ∧ xs.length = es.length * szT P e ∧ (0 < es.length → ∃ ad, A = some ad ∧ ∀ j y, xs[j]? = some y → w.cell? (ad.add j) = some y) ∧ (∀ l ∈ es, l.length = szT P e) ∧ (∀ u ∈ xs, u.oneCell' = true) ∧
      (∀ i j d, cellAt es i j = some d → Ow P w S d (xs.getD (i * szT P e + j) undef) (H i j)) ∧
      (∀ i j i' j' d d' k, cellAt es i j = some d → cellAt es i' j' = some d' → H i j k → H i' j' k → i = i' ∧ j = j') ∧ (∀ i j d k, cellAt es i j = some d → H i j k → F k) := by
    rintro rfl c rfl
    exact ⟨none, c, [], fun _ _ _ => False, rfl, by simp, by simp, by simp, by simp, fun i j d hd => by simp [cellAt] at hd, fun i j i' j' d d' k hd => by simp [cellAt] at hd, fun i j d k hd => by simp [cellAt] at hd⟩
  cases h with
  | dead => simp [rowsD] at hr
  | @sc u h =>
    unfold rowsD at hr
    split at hr
    · rename_i heq; cases heq
    · rename_i heq; cases heq; simp at hr; exact hnil hr.2 0 rfl
    · cases hr
  | @shared e' es' _ h =>
    simp only [rowsD, Option.some.injEq, Prod.mk.injEq] at hr
    obtain ⟨rfl, rfl⟩ := hr
    cases he _ rfl
    have hall := hf ⟨_, rfl⟩
    cases h with
    | @row _ _ _ A c U hl hm hsz hA hU =>
      by_cases h0 : 0 < es'.length
      · obtain ⟨ad, rfl, hsp, hS, hc⟩ := hA h0
        have hce : ∀ k, k < es'.length * szT P e → ∃ d, cellAt es' (k / szT P e) (k % szT P e) = some d := fun k hk => by
          have h1 : k / szT P e < es'.length := (Nat.div_lt_iff_lt_mul hpos).2 hk
          have h2 := Nat.mod_lt k hpos
          have h3 := hsz _ (List.getElem_mem h1)
          exact ⟨(es'[k / szT P e])[k % szT P e], by unfold cellAt; rw [List.getElem?_eq_getElem h1, Option.bind_some, List.getElem?_eq_getElem (by omega)]⟩
        let xs := (List.range (es'.length * szT P e)).map fun k => U (k / szT P e) (k % szT P e)
        have hxs : ∀ k, k < es'.length * szT P e → xs[k]? = some (U (k / szT P e) (k % szT P e)) := fun k hk => by simp [xs, hk]
        have hxl : xs.length = es'.length * szT P e := by simp [xs]
        have hco : ∀ i j d, cellAt es' i j = some d → xs.getD (i * szT P e + j) undef = U i j := fun i j d hd => by
          have hlt := off_lt (cellAt_lt hd) (cellAt_len hd hsz)
          have hj := cellAt_len hd hsz
          have e1 : (i * szT P e + j) / szT P e = i := by rw [Nat.mul_comm, Nat.mul_add_div hpos]; simp [Nat.div_eq_of_lt hj]
          have e2 : (i * szT P e + j) % szT P e = j := by rw [Nat.mul_comm, Nat.mul_add_mod]; exact Nat.mod_eq_of_lt hj
          rw [toArr_getD, hxs _ hlt, e1, e2]; rfl
        refine ⟨some ad, c, xs, fun _ _ _ => False, rfl, hxl, fun _ => ⟨ad, rfl, fun j y hy => ?_⟩, hsz, fun y hy => ?_, fun i j d hd => ?_, fun _ _ _ _ _ _ _ _ _ hk => hk.elim, fun _ _ _ _ _ hk => hk.elim⟩
        · have hj : j < es'.length * szT P e := by rw [← hxl]; exact (List.getElem?_eq_some_iff.1 hy).1
          rw [hxs j hj] at hy; cases hy
          obtain ⟨d, hd⟩ := hce j hj
          have := hc _ _ d hd
          have e1 : j / szT P e * szT P e + j % szT P e = j := by rw [Nat.mul_comm]; exact Nat.div_add_mod j _
          rw [e1] at this
          obtain ⟨b, f, s⟩ := ad
          simp only at hsp; subst hsp
          by_cases hj0 : j = 0
          · subst hj0; simpa [Addr.add] using this
          · simpa [Addr.add, hj0] using this
        · obtain ⟨j, hj, rfl⟩ := List.getElem_of_mem hy
          rw [hxl] at hj
          obtain ⟨d, hd⟩ := hce j hj
          have := (hU _ _ d hd).one
          simpa [xs] using this
        · rw [hco i j d hd]
          have hfr : freeD d = true := by
            have hi := cellAt_lt hd
            unfold cellAt at hd
            rw [List.getElem?_eq_getElem hi, Option.bind_some] at hd
            exact List.all_eq_true.1 (List.all_eq_true.1 hall _ (List.getElem_mem hi)) _ (List.mem_of_getElem? hd)
          have hro := hU i j d hd
          revert hro
          generalize U i j = uu
          intro hro
          cases hro with
          | dead h => exact .dead h
          | sc h => exact .sc h
          | row U hl hm hsz hA hU =>
            rename_i sh _ _ _ _
            cases sh with
            | true => exact .shared (.row U hl hm hsz hA hU)
            | false => simp [freeD] at hfr
      · have : es' = [] := List.eq_nil_of_length_eq_zero (by omega)
        subst this
        exact ⟨A, c, [], fun _ _ _ => False, rfl, by simp, by simp, by simp, by simp, fun i j d hd => by simp [cellAt] at hd, fun i j i' j' d d' k hd => by simp [cellAt] at hd, fun i j d k hd => by simp [cellAt] at hd⟩
  | row xs H own hsz h1 hx dis nb =>
    simp only [rowsD, Option.some.injEq, Prod.mk.injEq] at hr
    obtain ⟨rfl, rfl⟩ := hr
    cases he _ rfl
    rcases own.2 with ⟨hv, hn⟩ | ⟨g, cap, cur, rfl, _⟩
    · exact hnil (List.eq_nil_of_length_eq_zero hn) 0 hv
    · exact ⟨some ⟨g, 0, none⟩, cap, xs, H, rfl, own.1, fun _ => ⟨_, rfl, fun j y hy => own.cells (g := g) rfl j y hy⟩, hsz, h1, hx, dis, fun i j d k hd hk => Or.inr ⟨i, j, d, hd, hk⟩⟩

theorem elT_some' {P : Program} {t e : TypeId} (h : elT P t = some e) : P.underlying t = some (.slice e) := by
  exact elT_some h

theorem cellAt_append {es fs : List (List D)} {i j : Nat} : cellAt (es ++ fs) i j = if i < es.length then cellAt es i j else cellAt fs (i - es.length) j := by
  unfold cellAt
  by_cases h : i < es.length
  · rw [if_pos h, List.getElem?_append_left h]
  · rw [if_neg h, List.getElem?_append_right (by omega)]

theorem Ow.append {e : TypeId} {es fs : List (List D)} {v' : Value} {xs ys : List Value} {H1 H2 : Nat → Nat → Nat → Prop} (own : w.ownsRow 0 e (szT P e) v' (es.length + fs.length) (xs ++ ys)) (hl : xs.length = es.length * szT P e)
    (hz1 : ∀ l ∈ es, l.length = szT P e) (hz2 : ∀ l ∈ fs, l.length = szT P e) (o1 : ∀ u ∈ xs, u.oneCell' = true) (o2 : ∀ u ∈ ys, u.oneCell' = true)
    (x1 : ∀ i j d, cellAt es i j = some d → Ow P w S d (xs.getD (i * szT P e + j) undef) (H1 i j)) (x2 : ∀ i j d, cellAt fs i j = some d → Ow P w S d (ys.getD (i * szT P e + j) undef) (H2 i j))
    (d1 : ∀ i j i' j' d d' k, cellAt es i j = some d → cellAt es i' j' = some d' → H1 i j k → H1 i' j' k → i = i' ∧ j = j') (d2 : ∀ i j i' j' d d' k, cellAt fs i j = some d → cellAt fs i' j' = some d' → H2 i j k → H2 i' j' k → i = i' ∧ j = j')
    (d3 : ∀ i j i' j' d d' k, cellAt es i j = some d → cellAt fs i' j' = some d' → H1 i j k → ¬ H2 i' j' k)
    (n1 : ∀ i j d k, cellAt es i j = some d → H1 i j k → v'.ownBlock ≠ some k) (n2 : ∀ i j d k, cellAt fs i j = some d → H2 i j k → v'.ownBlock ≠ some k) :
    ∃ F, Ow P w S (.row false e (es ++ fs)) v' F ∧ ∀ k, F k → v'.ownBlock = some k ∨ (∃ i j d, cellAt es i j = some d ∧ H1 i j k) ∨ ∃ i j d, cellAt fs i j = some d ∧ H2 i j k := by
  refine ⟨_, .row (xs ++ ys) (fun i j k => if i < es.length then H1 i j k else H2 (i - es.length) j k) (by rw [List.length_append]; exact own) (fun l hl => (List.mem_append.1 hl).elim (hz1 l) (hz2 l)) (fun u hu => (List.mem_append.1 hu).elim (o1 u) (o2 u)) ?_ ?_ ?_, ?_⟩
  · intro i j d hd
    rw [cellAt_append] at hd
    by_cases hi : i < es.length
    · rw [if_pos hi] at hd
      have hlt := off_lt hi (cellAt_len hd hz1)
      rw [toArr_getD, List.getElem?_append_left (by omega), ← toArr_getD]
      exact (x1 i j d hd).congr fun k => by rw [if_pos hi]
    · rw [if_neg hi] at hd
      have hle : es.length * szT P e ≤ i * szT P e := Nat.mul_le_mul_right _ (by omega)
      rw [toArr_getD, List.getElem?_append_right (by omega), ← toArr_getD]
      have e1 : i * szT P e + j - xs.length = (i - es.length) * szT P e + j := by rw [hl, Nat.sub_mul]; omega
      rw [e1]
      exact (x2 _ j d hd).congr fun k => by rw [if_neg hi]
  · intro i j i' j' d d' k hd hd' hk hk'
    rw [cellAt_append] at hd hd'
    by_cases hi : i < es.length <;> by_cases hi' : i' < es.length
    · rw [if_pos hi] at hd hk; rw [if_pos hi'] at hd' hk'; exact d1 i j i' j' d d' k hd hd' hk hk'
    · rw [if_pos hi] at hd hk; rw [if_neg hi'] at hd' hk'; exact (d3 i j _ j' d d' k hd hd' hk hk').elim
    · rw [if_neg hi] at hd hk; rw [if_pos hi'] at hd' hk'; exact (d3 i' j' _ j d' d k hd' hd hk' hk).elim
    · rw [if_neg hi] at hd hk; rw [if_neg hi'] at hd' hk'
      have := d2 _ j _ j' d d' k hd hd' hk hk'
      exact ⟨by omega, this.2⟩
  · intro i j d k hd hk
    rw [cellAt_append] at hd
    by_cases hi : i < es.length
    · rw [if_pos hi] at hd hk; exact n1 i j d k hd hk
    · rw [if_neg hi] at hd hk; exact n2 _ j d k hd hk
  · rintro k (hk | ⟨i, j, d, hd, hk⟩)
    · exact Or.inl hk
    · rw [cellAt_append] at hd
      by_cases hi : i < es.length
      · rw [if_pos hi] at hd hk; exact Or.inr (Or.inl ⟨i, j, d, hd, hk⟩)
      · rw [if_neg hi] at hd hk; exact Or.inr (Or.inr ⟨_, j, d, hd, hk⟩)

theorem append_all (w : World) {t ty e : TypeId} {i : TypeInfo} {z : Value} {size bytes : Nat} (ht : P.underlying t = some (.slice e)) (hi : P.info? e = some i) (hz : i.zero = some z)
    (hsize : i.size = size) (hby : i.bytes = bytes) (hzs : z.cells.size = size) (hsz : 0 < size) {v : Value} {n : Nat} {xs : List Value} (hown : w.ownsRow 0 e size v n xs)
    {A : Option Addr} {m c : Nat} {news : List Value} (hl : news.length = m * size) (hA : 0 < m → ∃ ad, A = some ad ∧ ∀ j u, news[j]? = some u → w.cell? (ad.add j) = some u) (h1 : ∀ u ∈ news, u.oneCell' = true)
    (h63 : n + m ≤ maxLen) (hbytes : (n + m) * bytes ≤ 140737488355328) :
    ∃ v' w', (Builtin.append_ #[t, t] ty #[v, .slice A m c]).run P w = .ok v' w' ∧ w'.ownsRow 0 e size v' (n + m) (xs ++ news) ∧ w.heap.size ≤ w'.heap.size ∧ w'.os = w.os ∧ w'.output = w.output ∧
      (∀ k, k < w.heap.size → v.ownBlock ≠ some k → w'.heap[k]? = w.heap[k]?) ∧ (∀ k, v'.ownBlock = some k → v.ownBlock = some k ∨ w.heap.size ≤ k) ∧
      (∀ may : MemPlace → Prop, (∀ g, v.ownBlock = some g → ∀ f, may (.cell g f)) → w.keptBut w' may) := by
  cases A with
  | some ad =>
    refine append_law w ht hi hz hsize hby hzs hsz hown hl (fun j u hj => ?_) h1 h63 hbytes
    have hm : 0 < m := by
      apply Nat.pos_of_ne_zero
      rintro rfl
      have := (List.getElem?_eq_some_iff.1 hj).1
      omega
    obtain ⟨ad', e', hc⟩ := hA hm
    cases e'
    exact hc j u hj
  | none =>
    have hm : m = 0 := Nat.eq_zero_of_not_pos fun h => by obtain ⟨_, h, _⟩ := hA h; cases h
    subst hm
    have hn : news = [] := List.eq_nil_of_length_eq_zero (by simpa using hl)
    subst hn
    rw [List.append_nil]
    refine ⟨v, w, ?_, hown, Nat.le_refl _, rfl, rfl, fun _ _ _ => rfl, fun k hk => Or.inl hk, fun may _ => World.keptBut_refl w may⟩
    rcases hown.2 with ⟨rfl, rfl⟩ | ⟨g, cap, cur, rfl, _, _, hnc, _⟩
    · exact append_none w ht hi (Nat.le_refl _)
    · exact append_none w ht hi hnc

theorem append_sound (h : Rep P C No st a w gh) {o : Oper} {t : TypeId} {x y : Operand} {d : Nat} {c : Call} {K : St → Prop} (ho : o.op = .call c) (hc : c.callee = .builtin .append) (hca : c.args.toList = [x, y]) (hct : c.argTypes.toList = [t, t]) (hd : o.dst = some d) (hlt : d < st.nt)
    (hox : (st.ev x).ok) (hoy : (st.ev y).ok) (hz : Sized P) (hk : aAppend P C st t d (st.ev x).str (st.ev y).str K) : Comes1 P C o a w K := by
  obtain ⟨hs1, hs2, hown, hk⟩ := hk
  split at hk
  case h_2 => exact hk.elim
  rename_i e e1 es e2 fs hel hr1 hr2
  obtain ⟨he1, he2, hall, hzc, hb1, hb2, hp, hk⟩ := hk
  have hpos := hz t e hel
  have hu := elT_some' hel
  obtain ⟨zc, hzc, hzl⟩ := Option.map_eq_some_iff.1 hzc
  obtain ⟨i, z, hi, hzz, hzce⟩ := zero_info hzc
  have hsi : i.size = szT P e := by unfold szT; simp [hi]
  have hzsz : z.cells.size = szT P e := by rw [← hzl, ← hzce]; simp
  have hby : i.bytes = bytesT P e := by unfold bytesT; simp [hi]
  obtain ⟨gh1, F1, hrp1, hS1, hq1, how1, hF1, hst1⟩ := toD_sound h (h.use x hox) hs1
  have hy := hst1 _ _ (h.use y hoy) hs2
  obtain ⟨gh2, F2, hrp2, hS2, hq2, how2, hF2, hst2⟩ := toD_sound hrp1 hy hs2
  obtain ⟨xs, H1, own, sz1, o1, x1, dd1, nb1, hF1e⟩ := own_row hpos how1 hown hr1 he1
  have hfree : (∃ e', (toD (toD st (st.ev x).str).2.1 (st.ev y).str).2.2 = .row true e' fs) → fs.all (·.all freeD) = true := by
    rintro ⟨e', he⟩
    generalize (st.ev y).str = vy at he hall hs2
    cases vy with
    | imm => exact hall
    | ref oy p n => 
      match p with
      | [] => simp only [toD] at he; split at he <;> cases he
      | [(_, _)] => simp only [toD] at he; split at he <;> (try split at he) <;> cases he
      | _ :: _ :: _ => simp [toD] at hs2
    | sc => simp [toD] at he
    | nil => simp [toD] at he
    | _ => simp [toD] at hs2
  obtain ⟨A, cc, ys, H2, hyv, hyl, hyA, sz2, o2, x2, dd2, hH2⟩ := elems_row hpos how2 hr2 he2 hfree
  obtain ⟨stB, hstB, ghB, XB, hB, hSB, hnB, hF1B, hH2B⟩ : ∃ stB, stB = (bif stays (st.ev y).str fs then (toD st (st.ev x).str).2.1 else (toD (toD st (st.ev x).str).2.1 (st.ev y).str).2.1) ∧
      ∃ (ghB : Gh) (XB : Nat → Prop), Rep P C XB stB a w ghB ∧ ghB.S = gh.S ∧ stB.nt = st.nt ∧ (∀ k, F1 k → XB k) ∧ (∀ i j d k, cellAt fs i j = some d → H2 i j k → XB k ∧ ¬ F1 k) := by
    refine ⟨_, rfl, ?_⟩
    cases hst : stays (st.ev y).str fs with
    | true =>
      refine ⟨gh1, _, hrp1, hS1, toD_nt _, fun k hk => Or.inr hk, fun i j d k hd hk => ?_⟩
      have hfa : fs.all (·.all freeD) = true := by
        generalize (st.ev y).str = vy at hst hall hs2
        cases vy <;> simp only [stays, Bool.and_eq_true] at hst <;> first | exact hst.2 | exact hall | cases hst
      have hfr : freeD d = true := by
        have hi := cellAt_lt hd
        unfold cellAt at hd
        rw [List.getElem?_eq_getElem hi, Option.bind_some] at hd
        exact List.all_eq_true.1 (List.all_eq_true.1 hfa _ (List.getElem_mem hi)) _ (List.mem_of_getElem? hd)
      exact (free_none hfr (x2 i j d hd) k hk).elim
    | false =>
      exact ⟨gh2, _, hrp2, hS2.trans hS1, (toD_nt _).trans (toD_nt _), fun k hk => Or.inl (Or.inr hk), fun i j d k hd hk => ⟨Or.inr (hH2 i j d k hd hk), fun hk' => hF2 k (hH2 i j d k hd hk) (Or.inr hk')⟩⟩
  rw [← hstB] at hk
  obtain ⟨v', w', hrun, own', hszw, hos, hout, hkeep, hob, hmay⟩ := append_all (P := P) (ty := o.type) w hu hi hzz hsi hby hzsz hpos own hyl hyA o2 (by unfold maxLen; omega) hb2
  have hF1b : ∀ k, (a.eval x).ownBlock = some k → F1 k := fun k hk => (hF1e k).2 (Or.inl hk)
  have hB' := hB.world hszw (fun o' x' k hx hk => hkeep k ((hB.obs o' x' hx).lt k hk) (fun hk' => hB.xF o' x' k hx (hF1B k (hF1b k hk')) hk)) (fun k hk => hkeep k (hB.sS k hk) (fun hk' => hB.xS k (hF1B k (hF1b k hk')) hk))
    (hmay _ (fun g hg f => ⟨g, f, rfl, (hB.xW g (hF1B g (hF1b g hg))).imp id (fun hh => hh f)⟩))
  obtain ⟨Fn, hown', hFn⟩ := Ow.append (P := P) (S := ghB.S) own' own.1 sz1 sz2 o1 o2
    (fun i j d hd => by
      rw [hSB]
      refine (x1 i j d hd).move (fun k hk => hkeep k ?_ (nb1 i j d k hd hk)) (fun k hk => hkeep k (by rw [← hSB] at hk; exact hB.sS k hk) (fun hk' => by rw [← hSB] at hk; exact hB.xS k (hF1B k (hF1b k hk')) hk))
      exact hB.xl k (hF1B k ((hF1e k).2 (Or.inr ⟨i, j, d, hd, hk⟩))))
    (fun i j d hd => by
      rw [hSB]
      have := x2 i j d hd
      rw [hS1] at this
      refine this.move (fun k hk => hkeep k (hB.xl k (hH2B i j d k hd hk).1) (fun hk' => (hH2B i j d k hd hk).2 (hF1b k hk'))) (fun k hk => hkeep k (by rw [← hSB] at hk; exact hB.sS k hk) (fun hk' => by rw [← hSB] at hk; exact hB.xS k (hF1B k (hF1b k hk')) hk)))
    dd1 dd2 (fun i j i' j' d d' k hd hd' hk hk' => (hH2B i' j' d' k hd' hk').2 ((hF1e k).2 (Or.inr ⟨i, j, d, hd, hk⟩)))
    (fun i j d k hd hk hk' => (hob k hk').elim (nb1 i j d k hd hk) (fun hle => by have := hB.xl k (hF1B k ((hF1e k).2 (Or.inr ⟨i, j, d, hd, hk⟩))); omega))
    (fun i j d k hd hk hk' => (hob k hk').elim (fun hk'' => (hH2B i j d k hd hk).2 (hF1b k hk'')) (fun hle => by have := hB.xl k (hH2B i j d k hd hk).1; omega))
  -- the new block is taken in hand
  have hhold : ∃ X', Rep P C X' stB a w' ghB ∧ (∀ k, XB k → X' k) ∧ ∀ k, v'.ownBlock = some k → X' k := by
    by_cases hn : ∃ k, v'.ownBlock = some k ∧ w.heap.size ≤ k
    · obtain ⟨k, hk, hle⟩ := hn
      refine ⟨_, hB'.hold (b := k) ?_ (fun hk' => by have := hB.sS k hk'; omega) (fun o' x' hx hk' => by have := (hB.obs o' x' hx).lt k hk'; omega) (Or.inl (by have := hB.size; omega)), fun k hk => Or.inl hk, fun k' hk' => Or.inr (by rw [hk] at hk'; cases hk'; rfl)⟩
      exact (own'.lt k hk).2
    · refine ⟨XB, hB', fun k hk => hk, fun k hk => ?_⟩
      rcases hob k hk with hk' | hk'
      · exact hF1B k (hF1b k hk')
      · exact (hn ⟨k, hk, hk'⟩).elim
  obtain ⟨X', hX', hXX, hXn⟩ := hhold
  obtain ⟨gh', hrep, hS', hhv, _⟩ := hX'.freshRow hp hown' (fun k hk => by
    rcases hFn k hk with hk | ⟨i, j, d, hd, hk⟩ | ⟨i, j, d, hd, hk⟩
    · exact hXn k hk
    · exact hXX k (hF1B k ((hF1e k).2 (Or.inr ⟨i, j, d, hd, hk⟩)))
    · exact hXX k (hH2B i j d k hd hk).1)
  have hv' : ∃ A' c', v' = .slice A' (es ++ fs).length c' := by
    rw [List.length_append]
    rcases own'.2 with ⟨rfl, h0⟩ | ⟨g, cap, cur, rfl, _⟩
    · rw [h0]; exact ⟨_, _, rfl⟩
    · exact ⟨_, _, rfl⟩
  obtain ⟨A', c', rfl⟩ := hv'
  refine ⟨.value (.slice A' (es ++ fs).length c'), w', ?_, Or.inl ⟨_, rfl, _, gh', hk, ?_⟩⟩
  · have e1 : (c.args.map a.eval) = #[a.eval x, a.eval y] := by
      apply Array.ext'; rw [Array.toList_map, hca]; rfl
    have e2 : c.argTypes = #[t, t] := by apply Array.ext'; rw [hct]
    have e3 : a.eval y = .slice A fs.length cc := hyv
    simp only [execOp, ho, resolve, hc, invoke, builtin, Sem.run_bind, Sem.run_pure, Result.andThen_ok, e1, e2, e3]
    rw [hrun]; rfl
  · rw [hd]
    refine (hrep.less (X' := No) (fun k hk => hk.elim)).set (by simp only [St.fresh, St.put, St.kill]; rw [hnB]; exact hlt) ?_
    have hvw := VR.whole (P := P) (w := w') (gh := gh') (n := es.length + fs.length) (fresh_look stB (anon d) (.row e (es ++ fs))) hhv (by rw [List.length_append]; exact Nat.le_refl _)
    rw [List.length_append]; exact hvw
end
end Go.Proofs.YtaodmogcjpainaaDoor.AW
