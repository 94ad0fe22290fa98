/- The engine, part 3: what memory holds, told as data; operations, code and calls reckoned upon it. No condition. -/
import Derived.Test.YtldniggehdpheaaB2
import Derived.Laws.Slices
import Derived.Laws.BytesArg
import Derived.Laws.StructEq
import Derived.Tactics
namespace Go.Proofs.Ytldniggehdpheaa.AW
open Go.RowKit
set_option linter.unusedSimpArgs false
set_option linter.unusedVariables false

def ixV : Option V → Option (Option Int)
  | none => some none
  | some (.sc (.int _ i)) => some (some i)
  | _ => none

def sliceV (P : Program) (st : St) (t : TypeId) (x : V) (lo hi : Option V) : Prop × V := match ixV lo, ixV hi with
  | some l, some h => match x with
    | .sc (.string s) => (P.underlying t = some .string ∧ 0 ≤ l.getD 0 ∧ l.getD 0 ≤ h.getD s.size ∧ h.getD s.size ≤ s.size, .sc (.string (s.extract (l.getD 0).toNat (h.getD s.size).toNat)))
    | .imm e es => (elT P t = some e ∧ 0 ≤ l.getD 0 ∧ l.getD 0 ≤ h.getD es.length ∧ h.getD es.length ≤ es.length, .imm e ((es.take (h.getD es.length).toNat).drop (l.getD 0).toNat))
    | .ref o p n => ((elT P t).isSome = true ∧ l.getD 0 = 0 ∧ 0 ≤ h.getD n ∧ h.getD n ≤ n, .ref o p (h.getD n).toNat)
    | _ => (False, .dead)
  | _, _ => (False, .dead)

def placesT (P : Program) (t : TypeId) : Option (List (Nat × Nat)) := match P.underlying t with
  | some (.struct fields) => fields.toList.mapM (fun f => (P.info? f.type).map fun i => (f.offset, i.size))
  | _ => none

def fillV (pl : List (Nat × Nat)) (cells : List V) : List (Nat × V) → Option (List V)
  | [] => some cells
  | (i, v) :: rest => match pl[i]?, flatV v with
    | some (off, size), some vs => if vs.length = size ∧ off + vs.length ≤ cells.length then fillV pl (setL cells off vs) rest else none
    | _, _ => none

def buildV (P : Program) (t : TypeId) (parts : List (Nat × V)) : Prop × V := match zeroCells P t, placesT P t with
  | some z, some pl => (z.all (·.oneCell') = true ∧ (fillV pl (z.map .sc) parts).isSome = true, .agg ((fillV pl (z.map .sc) parts).getD []))
  | _, _ => (False, .dead)

def okO (st : St) : Option Operand → Prop
  | none => True
  | some y => (st.ev y).ok
theorem okO_get {st : St} {z : Option Operand} (h : okO st z) : ∀ y, z = some y → (st.ev y).ok := fun y hy => by subst hy; exact h

/-- Structs of numbers, flags and texts that are held against one another: their fields' places and kinds. -/
def eqT (P : Program) (t : TypeId) : Option (List (Nat × Nat)) := if P.stoodInHeld t = false ∧ P.eqGuardType P.depth t = false then (match P.underlying t with
  | some (.struct fs) => fs.toList.mapM (fun f => if f.name = "_" then none else match P.underlying f.type with
    | some (.int _) => some (f.offset, 0)
    | some .bool => some (f.offset, 1)
    | some .string => some (f.offset, 2)
    | _ => none)
  | _ => none) else none
def eq1 : Nat → Option V → Option V → Option Bool
  | 0, some (.sc (.int k a)), some (.sc (.int k' b)) => if k = k' then some (a == b) else none
  | 1, some (.sc (.bool a)), some (.sc (.bool b)) => some (a == b)
  | 2, some (.sc (.string a)), some (.sc (.string b)) => some (a.toList == b.toList)
  | _, _, _ => none
def eqV : List (Nat × Nat) → List V → List V → Option Bool
  | [], _, _ => some true
  | (o, k) :: r, vs, us => match eq1 k vs[o]? us[o]? with
    | some a => (eqV r vs us).map fun b => a && b
    | none => none
def structQ (P : Program) (o : Oper) (st : St) : Option (Prop × V) := match o.op with
  | .binOp op t x y _ => match (st.ev x).str, (st.ev y).str with
    | .agg vs, .agg us => match eqT P t with
      | some l => match eqV l vs us with
        | some b => match op with
          | .eql => some ((st.ev x).ok ∧ (st.ev y).ok, .sc (.bool b))
          | .neq => some ((st.ev x).ok ∧ (st.ev y).ok, .sc (.bool (!b)))
          | _ => none
        | none => none
      | none => none
    | _, _ => none
  | _ => none

/-- The operations that only reckon and read, all of them. -/
def aPure2 (P : Program) (o : Oper) (st : St) : Option (Prop × V) := match structQ P o st with
  | some r => some r
  | none => match aPure P o st with
  | some r => some r
  | none => match o.op with
    | .slice t x lo hi mx => match mx with
      | none => some ((st.ev x).ok ∧ okO st lo ∧ okO st hi ∧ (sliceV P st t (st.ev x).str (lo.map fun y => (st.ev y).str) (hi.map fun y => (st.ev y).str)).1,
          (sliceV P st t (st.ev x).str (lo.map fun y => (st.ev y).str) (hi.map fun y => (st.ev y).str)).2)
      | some _ => none
    | .build t parts => some (okP st parts.toList ∧ (buildV P t (parts.toList.map fun p => (p.1, (st.ev p.2).str))).1, (buildV P t (parts.toList.map fun p => (p.1, (st.ev p.2).str))).2)
    | _ => none

/-- The bytes of a row of bytes. -/
def bytesD : List (List D) → Option (List Int)
  | [] => some []
  | [.sc (.int .u8 z)] :: r => (bytesD r).map (z :: ·)
  | _ => none

/-- The text of a row of bytes. -/
def aConv (P : Program) (st : St) (s t : TypeId) (v : V) (d : Nat) (K : St → Prop) : Prop := match v with
  | .ref o p n => match look st.ob o with
    | some x => match subO x p with
      | some (.row false e es) => (elT P s = some e ∧ P.underlying e = some (.int .u8) ∧ P.underlying t = some .string ∧ szT P e = 1 ∧ (bytesD es).isSome = true ∧ n = es.length ∧ 0 < n) ∧ ev (b := ⟨K⟩) (st.set d (.sc (.string (strOfNums ((bytesD es).getD [])))))
      | _ => False
    | none => False
  | _ => False

section
variable {P : Program} {w w1 : World} {C : Cx} {X : Nat → Prop} {gh : Gh} {st : St} {a : Act} {v : V} {u : Value} {ob : List (Nat × Ob)} {S : Nat → Prop}

theorem fill_sound {pl : List (Nat × Nat)} : ∀ {parts : List (Nat × V)} {vals : List (Nat × Value)} {cells : Array Value} {vs r : List V}, parts.length = vals.length → (∀ (i : Nat) (p : Nat × V) (q : Nat × Value), parts[i]? = some p → vals[i]? = some q → p.1 = q.1 ∧ VR P w gh ob p.2 q.2) →
    cells.size = vs.length → (∀ x ∈ cells, x.oneCell' = true) → (∀ (i : Nat) (x : V), vs[i]? = some x → VR P w gh ob x (cells.getD i undef)) → fillV pl vs parts = some r →
    ∃ out, Instr.fill (pl.toArray[·]?) cells vals = some out ∧ out.size = r.length ∧ (∀ x ∈ out, x.oneCell' = true) ∧ ∀ (i : Nat) (x : V), r[i]? = some x → VR P w gh ob x (out.getD i undef)
  | [], vals, cells, vs, r, hl, _, hs, h1, hv, hf => by
    have : vals = [] := List.eq_nil_of_length_eq_zero (by simpa using hl.symm)
    subst this
    simp only [fillV, Option.some.injEq] at hf
    subst hf
    exact ⟨cells, rfl, hs, h1, hv⟩
  | (i, v) :: parts, [], cells, vs, r, hl, _, _, _, _, _ => by simp at hl
  | (i, v) :: parts, (i', y) :: vals, cells, vs, r, hl, hp, hs, h1, hv, hf => by
    obtain ⟨e1, hvy⟩ := hp 0 _ _ rfl rfl
    simp only at e1 hvy
    subst e1
    simp only [fillV] at hf
    split at hf
    case h_2 => cases hf
    rename_i off size fs hpl hfl
    split at hf
    case isFalse => cases hf
    rename_i hc
    obtain ⟨g1, g2, g3⟩ := flat_sound hvy hfl
    obtain ⟨f1, f2⟩ := Great.foldl_set off y.cells.toList 0 cells
    have hset : ∀ k : Nat, ((y.cells.toList.zipIdx 0).foldl (fun (cs : Array Value) (x : Value × Nat) => cs.setIfInBounds (off + x.2) x.1) cells)[k]? = (setL cells.toList off y.cells.toList)[k]? := by
      intro k
      rw [f2, setL_get]
      simp only [Nat.add_zero, Array.length_toList, Array.getElem?_toList]
    have hrec := fill_sound (parts := parts) (vals := vals) (cells := (y.cells.toList.zipIdx 0).foldl (fun (cs : Array Value) (x : Value × Nat) => cs.setIfInBounds (off + x.2) x.1) cells) (vs := setL vs off fs) (r := r) (Nat.succ.inj hl)
      (fun k p q hk hq => hp (k + 1) p q (by simpa using hk) (by simpa using hq)) (by rw [f1, setL_length, hs]) (fun x hx => by
        obtain ⟨k, hk, rfl⟩ := Array.getElem_of_mem hx
        have := hset k
        rw [Array.getElem?_eq_getElem hk, setL_get] at this
        split at this
        · exact g2 _ (by simpa using List.mem_of_getElem? this.symm)
        · exact h1 _ (by simpa using List.mem_of_getElem? this.symm))
      (fun k x hx => by
        have e2 : ((y.cells.toList.zipIdx 0).foldl (fun (cs : Array Value) (x : Value × Nat) => cs.setIfInBounds (off + x.2) x.1) cells).getD k undef = ((setL cells.toList off y.cells.toList)[k]?).getD undef := by
          rw [← hset]; simp only [Array.getD_eq_getD_getElem?]
        rw [e2, setL_get]
        rw [setL_get] at hx
        simp only [Array.length_toList]
        by_cases hin : off ≤ k ∧ k < off + fs.length ∧ k < vs.length
        · rw [if_pos hin] at hx
          rw [if_pos (by omega), ← toArr_getD]
          exact g3 _ x hx
        · rw [if_neg hin] at hx
          rw [if_neg (by omega)]
          have := hv k x hx
          rw [Array.getD_eq_getD_getElem?] at this
          simpa using this) hf
    obtain ⟨out, o1, o2⟩ := hrec
    refine ⟨out, ?_, o2⟩
    simp only [Instr.fill]
    have e3 : pl.toArray[i]? = some (off, size) := by simpa using hpl
    rw [e3]
    simp only
    rw [if_neg (by simp only [ne_eq, Bool.or_eq_true, decide_eq_true_eq, not_or]; omega)]
    have e4 : y.cells.toList.zipIdx = y.cells.zipIdx.toList := by simp
    rw [← o1, e4, Array.foldl_toList]

theorem build_sound {t : TypeId} {parts : List (Nat × V)} {vals : Array (Nat × Value)} (hl : parts.length = vals.toList.length) (hp : ∀ (i : Nat) (p : Nat × V) (q : Nat × Value), parts[i]? = some p → vals.toList[i]? = some q → p.1 = q.1 ∧ VR P w gh ob p.2 q.2) (hs : (buildV P t parts).1) :
    ∃ y, (∀ w : World, (Instr.build t vals).run P w = .ok y w) ∧ VR P w gh ob (buildV P t parts).2 y := by
  unfold buildV at hs ⊢
  cases hz : zeroCells P t with
  | none => simp [hz] at hs
  | some z =>
    cases hpl : placesT P t with
    | none => simp [hz, hpl] at hs
    | some pl =>
      simp only [hz, hpl] at hs ⊢
      obtain ⟨h1, h2⟩ := hs
      obtain ⟨r, hr⟩ := Option.isSome_iff_exists.1 h2
      obtain ⟨i, zz, hi, hzz, rfl⟩ := zero_info hz
      obtain ⟨out, o1, o2, o3, o4⟩ := fill_sound (cells := zz.cells) hl hp (by simp) (fun x hx => List.all_eq_true.1 h1 x (by simpa using hx)) (fun k x hx => by
        simp only [List.getElem?_map, Option.map_eq_some_iff, Array.getElem?_toList] at hx
        obtain ⟨y, hy, rfl⟩ := hx
        have e : zz.cells.getD k undef = y := by rw [Array.getD_eq_getD_getElem?, hy]; rfl
        rw [e]
        exact .sc (List.all_eq_true.1 h1 y (by simpa using Array.mem_of_getElem? hy))) hr
      refine ⟨.agg out, fun w => run_build w t vals out ?_, ?_⟩
      · unfold placesT at hpl
        split at hpl
        · rename_i fields hu
          simp only [Program.built, hi, hu, hzz, hpl]
          exact o1
        · cases hpl
      · rw [hr]; exact .agg o2 o3 o4

theorem ixV_inv {x : Option V} {u : Option Value} {l : Option Int} (hx : ∀ y, x = some y → ∃ z, u = some z ∧ VR P w gh ob y z) (hn : x = none → u = none) (h : ixV x = some l) : (l = none ∧ u = none) ∨ ∃ k i, l = some i ∧ u = some (.int k i) := by
  cases x with
  | none => simp only [ixV, Option.some.injEq] at h; exact Or.inl ⟨h.symm, hn rfl⟩
  | some y =>
    obtain ⟨z, rfl, hz⟩ := hx y rfl
    unfold ixV at h
    split at h
    · rename_i heq; cases heq
    · rename_i k i heq
      cases heq
      simp only [Option.some.injEq] at h
      have := hz.sc_inv
      exact Or.inr ⟨k, i, h.symm, by rw [this]⟩
    · cases h

theorem bounds_sound {b : Bool} {n c : Nat} {l h : Option Int} {lo hi : Option Value} (hlo : (l = none ∧ lo = none) ∨ ∃ k i, l = some i ∧ lo = some (.int k i)) (hhi : (h = none ∧ hi = none) ∨ ∃ k i, h = some i ∧ hi = some (.int k i))
    (h0 : 0 ≤ l.getD 0) (h1 : l.getD 0 ≤ h.getD n) (h2 : h.getD n ≤ n) (hnc : n ≤ c) : (Instr.sliceBounds b n c lo hi none).run P w = .ok ((l.getD 0).toNat, (h.getD n).toNat, c) w := by
  have e0 : ∀ i : Int, 0 ≤ i → ((i.toNat : Nat) : Int) = i := fun i hi => Int.toNat_of_nonneg hi
  rcases hlo with ⟨rfl, rfl⟩ | ⟨k, i, rfl, rfl⟩ <;> rcases hhi with ⟨rfl, rfl⟩ | ⟨k', i', rfl, rfl⟩ <;> simp only [Option.getD_none, Option.getD_some] at *
  · simp [Instr.sliceBounds]
  · have := run_sliceBound (P := P) w k' i' c (if b then .sliceAcap else .sliceAlen) (by omega) (by omega)
    simp [Instr.sliceBounds, this, Sem.run_bind]
  · have := run_sliceBound (P := P) w k i n .sliceB (by omega) (by omega)
    simp [Instr.sliceBounds, this, Sem.run_bind]
  · have h3 := run_sliceBound (P := P) w k' i' c (if b then .sliceAcap else .sliceAlen) (by omega) (by omega)
    have h4 := run_sliceBound (P := P) w k i i'.toNat .sliceB (by omega) (by rw [e0 i' (by omega)]; omega)
    simp [Instr.sliceBounds, h3, h4, Sem.run_bind]

theorem Ro.part {e : TypeId} {es : List (List D)} {A : Option Addr} {n c l h : Nat} (hr : Ro P w S (.row true e es) (.slice A n c)) (h1 : l ≤ h) (h2 : h ≤ es.length) :
    Ro P w S (.row true e ((es.take h).drop l)) (.slice (if c = l then A else A.map (·.add (l * szT P e))) (h - l) (c - l)) := by
  have hlen : ((es.take h).drop l).length = h - l := by simp; omega
  rw [← hlen]
  cases hr with
  | row U hl hm hsz hA hU =>
    have hget : ∀ i j d, cellAt ((es.take h).drop l) i j = some d → cellAt es (l + i) j = some d := by
      intro i j d hd
      have hi := cellAt_lt hd
      unfold cellAt at hd ⊢
      rw [List.getElem?_drop, List.getElem?_take_of_lt (by omega)] at hd
      exact hd
    refine .row (fun i j => U (l + i) j) (by omega) (by omega) (fun x hx => hsz x (List.mem_of_mem_take (List.mem_of_mem_drop hx))) (fun h0 => ?_) (fun i j d hd => hU _ _ d (hget i j d hd))
    obtain ⟨ad, rfl, hsp, hS, hc⟩ := hA (by omega)
    rw [if_neg (by omega)]
    obtain ⟨b, f, s⟩ := ad
    simp only at hsp; subst hsp
    refine ⟨_, rfl, ?_, ?_, fun i j d hd => ?_⟩
    · simp only [Addr.add]; split <;> rfl
    · simp only [Addr.add]; split <;> exact hS
    · have := hc _ _ d (hget i j d hd)
      have e1 : f + ((l + i) * szT P e + j) = (Addr.add ⟨b, f, none⟩ (l * szT P e)).off + (i * szT P e + j) := by
        rw [Nat.add_mul]
        simp only [Addr.add]; split <;> simp only <;> omega
      have e2 : (Addr.add ⟨b, f, none⟩ (l * szT P e)).block = b := by simp only [Addr.add]; split <;> rfl
      rw [e2, ← e1]; exact this

theorem slice_sound {t : TypeId} {x : V} {p : Value} {lo hi : Option V} {lo' hi' : Option Value} (hx : VR P w gh ob x p) (hob : ∀ o x, look ob o = some x → ObR P w gh o x)
    (hlo : ∀ y, lo = some y → ∃ z, lo' = some z ∧ VR P w gh ob y z) (hlo0 : lo = none → lo' = none) (hhi : ∀ y, hi = some y → ∃ z, hi' = some z ∧ VR P w gh ob y z) (hhi0 : hi = none → hi' = none)
    {st : St} (hz : ∀ e, elT P t = some e → 0 < szT P e) (hs : (sliceV P st t x lo hi).1) :
    ∃ y, (∀ w : World, (Instr.sliceAt t p lo' hi' none).run P w = .ok y w) ∧ VR P w gh ob (sliceV P st t x lo hi).2 y := by
  unfold sliceV at hs ⊢
  split at hs
  case h_2 => exact hs.elim
  rename_i l h hl hh
  have bl := ixV_inv hlo hlo0 hl
  have bh := ixV_inv hhi hhi0 hh
  have hsize : ∀ e, elT P t = some e → ∀ w : World, (sizeOf e).run P w = .ok (szT P e) w := fun e he w => run_sizeOf (hz e he) w
  cases hx with
  | sc hp =>
    split at hs
    · rename_i s heq
      cases heq
      obtain ⟨hu, h0, h1, h2⟩ := hs
      have hb := fun w : World => bounds_sound (P := P) (w := w) (b := false) bl bh h0 h1 h2 (Nat.le_refl _)
      exact ⟨_, fun w => by simp [Instr.sliceAt, Instr.slice, run_underlying hu, hb, Sem.run_bind], .sc rfl⟩
    all_goals simp_all
  | @imm e es u hr =>
    obtain ⟨he, h0, h1, h2⟩ := hs
    have hu := elT_some' he
    cases hr with
    | @row _ _ _ A c U hl' hm hsz hA hU =>
      have hb := fun w : World => bounds_sound (P := P) (w := w) (b := true) bl bh h0 h1 h2 hl'
      refine ⟨_, fun w => ?_, .imm (Ro.part (.row U hl' hm hsz hA hU) (l := (l.getD 0).toNat) (h := (h.getD es.length).toNat) (by omega) (by omega))⟩
      simp [Instr.sliceAt, Instr.slice, run_underlying hu, hb, hsize e he, Sem.run_bind]
  | @ref o n p x' e es A c hxo hn hle =>
    obtain ⟨he, h0, h1, h2⟩ := hs
    obtain ⟨e', he⟩ := Option.isSome_iff_exists.1 he
    have hu := elT_some' he
    have hnc : n ≤ c := by
      obtain ⟨v', F', n1, n2, _⟩ := (hob o x' hxo).up hn.sub
      obtain ⟨_, e2⟩ := hn.fn n1
      subst e2
      cases n2 with
      | row xs H own =>
        rcases own.2 with ⟨e3, h3⟩ | ⟨g, cap, cur, e3, _, _, hcap, _⟩
        · injection e3 with a1 a2 a3; omega
        · injection e3 with a1 a2 a3; omega
    have hb := fun w : World => bounds_sound (P := P) (w := w) (b := true) bl bh (by omega) (by omega) h2 hnc
    refine ⟨.slice A (h.getD n).toNat c, fun w => ?_, .ref hxo hn (by omega)⟩
    have e5 : (l.getD 0).toNat = 0 := by omega
    have e6 : (Option.map (fun x => x.add 0) A) = A := by cases A <;> simp [Addr.add]
    simp [Instr.sliceAt, Instr.slice, run_underlying hu, hb, hsize e' he, Sem.run_bind, e5, e6]
  | _ => exact hs.elim

theorem bytesD_get : ∀ {es : List (List D)} {zs : List Int}, bytesD es = some zs → zs.length = es.length ∧ ∀ i, i < es.length → cellAt es i 0 = some (.sc (.int .u8 (zs.getD i 0)))
  | [], zs, h => by simp only [bytesD, Option.some.injEq] at h; subst h; exact ⟨rfl, fun i hi => by simp at hi⟩
  | l :: r, zs, h => by
    unfold bytesD at h
    split at h
    · rename_i heq; cases heq
    · rename_i z r' heq
      cases heq
      obtain ⟨zs', h', rfl⟩ := Option.map_eq_some_iff.1 h
      obtain ⟨g1, g2⟩ := bytesD_get h'
      refine ⟨by simp [g1], fun i hi => ?_⟩
      cases i with
      | zero => simp [cellAt]
      | succ i => have := g2 i (by simpa using hi); simpa [cellAt] using this
    · cases h

theorem conv_bytes_sound (h : Rep P C No st a w gh) {o : Oper} {s t : TypeId} {x : Operand} {d : Nat} {K : St → Prop} (ho : o.op = .convert s t x) (hd : o.dst = some d) (hlt : d < st.nt) (hok : (st.ev x).ok) (hk : aConv P st s t (st.ev x).str d K) : Comes1 P C o a w K := by
  have hv := h.use x hok
  unfold aConv at hk
  split at hk
  case h_2 => exact hk.elim
  rename_i k p n hx
  rw [hx] at hv
  generalize hu : a.eval x = u at hv
  cases hv with
  | @ref _ _ _ x' e' es' A c hxo hn hle =>
    have hs := hn.sub
    simp only [hxo, hs] at hk
    obtain ⟨⟨h1, h2, h3, h4, h5, rfl, h7⟩, hk⟩ := hk
    obtain ⟨v', F', hn', how, _⟩ := (h.obs k _ hxo).focus hs
    obtain ⟨_, rfl⟩ := hn.fn hn'
    obtain ⟨zs, hzs⟩ := Option.isSome_iff_exists.1 h5
    obtain ⟨g1, g2⟩ := bytesD_get hzs
    cases how with
    | row xs G own hsz h1' hx' dis nb =>
      obtain ⟨g, cap, he, hcc, hm, hcell, _⟩ := ownsRow_cell own h7
      cases he
      have hc := run_convert_bytes_arg (P := P) w s e' (elT_some' h1) h2 g 0 es'.length c zs g1 (fun i hi => by
        have hj : i < es'.length * szT P e' := by rw [h4]; omega
        have e1 := (hcell i hj).trans (getD_of_lt (by rw [own.1]; exact hj))
        have e2 := hx' i 0 _ (g2 i hi)
        rw [h4] at e2
        simp only [Nat.mul_one, Nat.add_zero] at e2
        simp only [Nat.zero_add] at e1 ⊢
        rw [e1]
        generalize xs.getD i undef = y at e2 ⊢
        generalize G i 0 = F0 at e2
        cases e2
        rfl) t h3
      have hrun : (execOp a.eval o).run P w = .ok (.value (.string (strOfNums zs))) w := by
        simp only [execOp, ho, Sem.run_bind, hu]
        rw [hc]; rfl
      rw [hzs] at hk
      refine ⟨_, _, hrun, Or.inl ⟨_, rfl, _, gh, hk, ?_⟩⟩
      rw [hd]
      exact h.set hlt (.sc rfl)

theorem part_one {f : TypeId} {d : TypeDesc} {xs : Array Value} {i : Nat} (hd : P.underlying f = some d) (hrow : d.isRow = false) (hi : i < xs.size) : ∀ w : World, (part f xs i).run P w = .ok xs[i] w := fun w => by
  have hagg : (isAgg f).run P w = .ok false w := by
    unfold isAgg
    rw [Sem.run_bind, run_underlying hd w]
    cases d <;> simp_all [TypeDesc.isRow]
  simp [part, Sem.run_bind, hagg, hi]
theorem eqFields_ok {vs us : List V} {xs ys : Array Value} (hx : VR P w gh ob (.agg vs) (.agg xs)) (hy : VR P w gh ob (.agg us) (.agg ys)) (dp : Nat) : ∀ {fs : List Field} {l : List (Nat × Nat)} {b : Bool},
    fs.mapM (fun f => if f.name = "_" then none else match P.underlying f.type with
      | some (.int _) => some (f.offset, 0)
      | some .bool => some (f.offset, 1)
      | some .string => some (f.offset, 2)
      | _ => none) = some l → eqV l vs us = some b → ∀ w1 : World, (Op.eqFields (dp + 1) xs ys fs).run P w1 = .ok b w1
  | [], l, b, h, hb, w1 => by
    simp at h; subst h
    simp [eqV] at hb; subst hb
    simp [Op.eqFields]
  | f :: r, l, b, h, hb, w1 => by
    rw [List.mapM_cons] at h
    by_cases hn : f.name = "_"
    · simp [hn] at h
    rw [if_neg hn] at h
    cases hx with
    | agg hxl hx1 hxx =>
    cases hy with
    | agg hyl hy1 hyy =>
    have cellx : ∀ {o : Nat} {z : Value}, vs[o]? = some (.sc z) → ∃ h : o < xs.size, xs[o] = z := fun {o z} ho => by
      have hlt := (List.getElem?_eq_some_iff.1 ho).1
      have h1 := (hxx o _ ho).sc_inv
      refine ⟨by omega, ?_⟩
      simpa [Array.getD, show o < xs.size by omega] using h1
    have celly : ∀ {o : Nat} {z : Value}, us[o]? = some (.sc z) → ∃ h : o < ys.size, ys[o] = z := fun {o z} ho => by
      have hlt := (List.getElem?_eq_some_iff.1 ho).1
      have h1 := (hyy o _ ho).sc_inv
      refine ⟨by omega, ?_⟩
      simpa [Array.getD, show o < ys.size by omega] using h1
    have key : ∀ (k : Nat) (d : TypeDesc), P.underlying f.type = some d → d.isRow = false → (∀ z z' : Value, vs[f.offset]? = some (.sc z) → us[f.offset]? = some (.sc z') → ∀ a, eq1 k (some (.sc z)) (some (.sc z')) = some a → ∀ w1 : World, (Op.equalIn (dp + 1) f.type z z').run P w1 = .ok a w1) →
        (some (f.offset, k) : Option (Nat × Nat)) >>= (fun q => (r.mapM (fun f => if f.name = "_" then none else match P.underlying f.type with
          | some (.int _) => some (f.offset, 0)
          | some .bool => some (f.offset, 1)
          | some .string => some (f.offset, 2)
          | _ => none)) >>= fun qs => pure (q :: qs)) = some l → (Op.eqFields (dp + 1) xs ys (f :: r)).run P w1 = .ok b w1 := fun k d hd hrow heq hh => by
      simp only [Option.bind_eq_bind, Option.bind_some] at hh
      obtain ⟨qs, hq, hl⟩ := Option.bind_eq_some_iff.1 hh
      simp only [Option.pure_def, Option.some.injEq] at hl
      subst hl
      simp only [eqV] at hb
      split at hb
      case h_2 => cases hb
      rename_i a ha
      obtain ⟨c, hc, rfl⟩ := Option.map_eq_some_iff.1 hb
      have sc : ∃ z z', vs[f.offset]? = some (.sc z) ∧ us[f.offset]? = some (.sc z') := by
        generalize vs[f.offset]? = p at ha
        generalize us[f.offset]? = q at ha
        unfold eq1 at ha
        split at ha <;> first | exact ⟨_, _, rfl, rfl⟩ | cases ha
      obtain ⟨z, z', e1, e2⟩ := sc
      obtain ⟨h1, g1⟩ := cellx e1
      obtain ⟨h2, g2⟩ := celly e2
      rw [e1, e2] at ha
      simp only [Op.eqFields]
      rw [if_pos hn, Sem.run_bind, part_one hd hrow h1, Result.andThen_ok, Sem.run_bind, part_one hd hrow h2, Result.andThen_ok, Sem.run_bind, g1, g2, heq z z' e1 e2 a ha w1, Result.andThen_ok]
      cases a with
      | true => simp only [Bool.not_true, Bool.false_eq_true, if_false, Bool.true_and]; exact eqFields_ok (.agg hxl hx1 hxx) (.agg hyl hy1 hyy) dp hq hc w1
      | false => simp
    split at h
    · rename_i k hk
      refine key 0 _ hk rfl (fun z z' e1 e2 a ha w1 => ?_) h
      unfold eq1 at ha
      split at ha <;> first | cases ha | skip
      · rename_i k1 a1 k2 b1 q1 q2
        cases q1; cases q2
        split at ha
        · rename_i hkk; cases ha; subst hkk
          exact run_equalIn_int w1 dp f.type _ _ _ _ hk
        · cases ha
      all_goals simp_all
    · rename_i hk
      refine key 1 _ hk rfl (fun z z' e1 e2 a ha w1 => ?_) h
      unfold eq1 at ha
      split at ha <;> first | cases ha | skip
      all_goals first
        | (rename_i q1 q2; cases q1; cases q2; exact run_equalIn_bool' w1 dp f.type _ _ hk)
        | simp_all
    · rename_i hk
      refine key 2 _ hk rfl (fun z z' e1 e2 a ha w1 => ?_) h
      unfold eq1 at ha
      split at ha <;> first | cases ha | skip
      all_goals first
        | (rename_i q1 q2; cases q1; cases q2; exact run_equalIn_string w1 dp f.type _ _ hk)
        | simp_all
    · simp at h
theorem struct_sound (h : Rep P C X st a w gh) {o : Oper} {s : Prop} {v : V} (hp : structQ P o st = some (s, v)) (hs : s) :
    ∃ y, (∀ w : World, (execOp a.eval o).run P w = .ok (.value y) w) ∧ VR P w gh st.ob v y := by
  unfold structQ at hp
  split at hp
  case h_2 => cases hp
  rename_i op t x y t2 hop
  split at hp
  case h_2 => cases hp
  rename_i vs us hx hy
  split at hp
  case h_2 => cases hp
  rename_i l hl
  split at hp
  case h_2 => cases hp
  rename_i b hb
  have hok : (st.ev x).ok ∧ (st.ev y).ok := by
    split at hp <;> first | (cases hp; exact hs) | cases hp
  have hvx := h.use x hok.1
  have hvy := h.use y hok.2
  rw [hx] at hvx
  rw [hy] at hvy
  unfold eqT at hl
  split at hl
  case isFalse => cases hl
  rename_i hcond
  split at hl
  case h_2 => cases hl
  rename_i fs hfs
  have hfo : P.fieldsOf t = fs := by unfold Program.fieldsOf; rw [hfs]
  generalize hex : a.eval x = ux at hvx
  generalize hey : a.eval y = uy at hvy
  cases hvx with
  | agg hxl hx1 hxx =>
  cases hvy with
  | agg hyl hy1 hyy =>
  rename_i xs ys
  have hrun : ∀ w1 : World, (Op.equalIn 10000 t (.agg xs) (.agg ys)).run P w1 = .ok b w1 := fun w1 => by
    rw [run_equalIn_struct w1 9999 t xs ys (by rw [hfo]; exact hfs) hcond.1, hfo]
    exact eqFields_ok (.agg hxl hx1 hxx) (.agg hyl hy1 hyy) 9998 hl hb w1
  split at hp
  · cases hp
    exact ⟨.bool b, fun w1 => by
      simp only [execOp, hop, Sem.run_bind, hex, hey]
      rw [run_eqGuard_agg w1 .eql t x y xs ys hcond.2]
      simp only [Result.andThen_ok, run_eql_struct, hrun]
      rfl, .sc rfl⟩
  · cases hp
    exact ⟨.bool (!b), fun w1 => by
      simp only [execOp, hop, Sem.run_bind, hex, hey]
      rw [run_eqGuard_agg w1 .neq t x y xs ys hcond.2]
      simp only [Result.andThen_ok, run_neq_struct, hrun]
      rfl, .sc rfl⟩
  · cases hp

theorem pure_all2 (hz : Sized P) (h : Rep P C X st a w gh) {o : Oper} {s : Prop} {v : V} (hp : aPure2 P o st = some (s, v)) (hs : s) (hnl : ∀ t x, o.op ≠ .load t x) :
    ∃ y, (∀ w : World, (execOp a.eval o).run P w = .ok (.value y) w) ∧ VR P w gh st.ob v y := by
  unfold aPure2 at hp
  split at hp
  · rename_i r hr
    cases hp
    exact struct_sound h hr hs
  split at hp
  · rename_i r hr
    cases hp
    exact pure_all hz h hr hs hnl
  · split at hp
    · rename_i t x lo hi mx hop
      split at hp
      · cases hp
        obtain ⟨h1, h2, h3, h4⟩ := hs
        replace h2 := okO_get h2
        replace h3 := okO_get h3
        have opt : ∀ (z : Option Operand), (∀ y, z = some y → (st.ev y).ok) → (∀ y, (z.map fun y => (st.ev y).str) = some y → ∃ u, z.map a.eval = some u ∧ VR P w gh st.ob y u) ∧ ((z.map fun y => (st.ev y).str) = none → z.map a.eval = none) := by
          intro z hz'
          cases z with
          | none => exact ⟨fun y hy => by simp at hy, fun _ => rfl⟩
          | some z => exact ⟨fun y hy => by simp at hy; subst hy; exact ⟨_, rfl, h.use z (hz' z rfl)⟩, fun hy => by simp at hy⟩
        obtain ⟨y, hr, hv⟩ := slice_sound (h.use x h1) h.obs (opt lo h2).1 (opt lo h2).2 (opt hi h3).1 (opt hi h3).2 (hz t) h4
        exact ⟨y, fun w => by simp [execOp, hop, Sem.run_bind, hr], hv⟩
      · cases hp
    · rename_i t parts hop
      cases hp
      obtain ⟨h1, h2⟩ := hs
      obtain ⟨y, hr, hv⟩ := build_sound (P := P) (w := w) (gh := gh) (ob := st.ob) (vals := parts.map fun (i, x) => (i, a.eval x)) (by simp) (fun i p q hp hq => by
        simp only [List.getElem?_map, Option.map_eq_some_iff, Array.toList_map] at hp hq
        obtain ⟨z, hz1, rfl⟩ := hp
        obtain ⟨z', hz2, rfl⟩ := hq
        rw [hz1] at hz2; cases hz2
        exact ⟨rfl, h.use z.2 (okP_mem h1 z (List.mem_of_getElem? hz1))⟩) h2
      exact ⟨y, fun w => by simp only [execOp, hop, Sem.run_bind]; rw [hr]; rfl, hv⟩
    · cases hp

theorem pure_sound2 (hz : Sized P) (h : Rep P C X st a w gh) {o : Oper} {s : Prop} {v : V} (hp : aPure2 P o st = some (s, v)) (hs : s) :
    ∃ y, (execOp a.eval o).run P w = .ok (.value y) w ∧ VR P w gh st.ob v y := by
  unfold aPure2 at hp
  split at hp
  · rename_i r hr
    cases hp
    obtain ⟨y, hr2, hv⟩ := struct_sound h hr hs
    exact ⟨y, hr2 w, hv⟩
  split at hp
  · rename_i r hr
    cases hp
    exact pure_sound hz h hr hs
  · split at hp
    · rename_i t x lo hi mx hop
      split at hp
      · cases hp
        obtain ⟨h1, h2, h3, h4⟩ := hs
        replace h2 := okO_get h2
        replace h3 := okO_get h3
        have opt : ∀ (z : Option Operand), (∀ y, z = some y → (st.ev y).ok) → (∀ y, (z.map fun y => (st.ev y).str) = some y → ∃ u, z.map a.eval = some u ∧ VR P w gh st.ob y u) ∧ ((z.map fun y => (st.ev y).str) = none → z.map a.eval = none) := by
          intro z hz'
          cases z with
          | none => exact ⟨fun y hy => by simp at hy, fun _ => rfl⟩
          | some z => exact ⟨fun y hy => by simp at hy; subst hy; exact ⟨_, rfl, h.use z (hz' z rfl)⟩, fun hy => by simp at hy⟩
        obtain ⟨y, hr, hv⟩ := slice_sound (h.use x h1) h.obs (opt lo h2).1 (opt lo h2).2 (opt hi h3).1 (opt hi h3).2 (hz t) h4
        exact ⟨y, by simp [execOp, hop, Sem.run_bind, hr], hv⟩
      · cases hp
    · rename_i t parts hop
      cases hp
      obtain ⟨h1, h2⟩ := hs
      obtain ⟨y, hr, hv⟩ := build_sound (P := P) (w := w) (gh := gh) (ob := st.ob) (vals := parts.map fun (i, x) => (i, a.eval x)) (by simp) (fun i p q hp hq => by
        simp only [List.getElem?_map, Option.map_eq_some_iff, Array.toList_map] at hp hq
        obtain ⟨z, hz1, rfl⟩ := hp
        obtain ⟨z', hz2, rfl⟩ := hq
        rw [hz1] at hz2; cases hz2
        exact ⟨rfl, h.use z.2 (okP_mem h1 z (List.mem_of_getElem? hz1))⟩) h2
      exact ⟨y, by simp only [execOp, hop, Sem.run_bind]; rw [hr w]; rfl, hv⟩
    · cases hp
end
end Go.Proofs.Ytldniggehdpheaa.AW

namespace Go.Proofs.Ytldniggehdpheaa.AW
open Go.RowKit
set_option linter.unusedSimpArgs false
set_option linter.unusedVariables false

def entersB (P : Program) (f : FuncId) : Bool := match P.funcs[f]? with
  | some fn => fn.name != "runtime.NumGoroutine" && fn.body.isSome
  | none => false

def nativeB (P : Program) (f : FuncId) : Bool := match P.funcs[f]? with
  | some fn => fn.body.isNone
  | none => false

/-- What is to be shown of a call: of a function with code; of one without. -/
def aCall (P : Program) (C : Cx) (st : St) (f : FuncId) (vs : List V) (d : Option Nat) (K : St → Prop) : Prop :=
  (entersB P f = true ∧ ∀ (a : Act) (w : World) (gh : Gh) (us : Array Value), Rep P C No st a w gh → us.size = vs.length → (∀ i v, vs[i]? = some v → VR P w gh st.ob v (us.getD i undef)) → (∀ k, d = some k → k < st.nt) →
    Calls P f us w (fun e w' => ∃ v, e = .returned v ∧ ∃ st' gh', K st' ∧ Rep P C No st' (a.put d v) w' gh')) ∨
  (nativeB P f = true ∧ ∀ (a : Act) (w : World) (gh : Gh) (us : Array Value), Rep P C No st a w gh → us.size = vs.length → (∀ i v, vs[i]? = some v → VR P w gh st.ob v (us.getD i undef)) → (∀ k, d = some k → k < st.nt) →
    ∃ v, (callFunc f us).run P w = .ok (.value v) w ∧ ∃ st' gh', K st' ∧ Rep P C No st' (a.put d v) w gh')

/-- The same; what is to come is not looked into. -/
def aCallB (P : Program) (C : Cx) (st : St) (f : FuncId) (vs : List V) (d : Option Nat) [b : KB] : Prop := aCall P C st f vs d b.k

/-- What a function value takes along, as it is known. -/
def cloV : List V → Option (List (List D))
  | [] => some []
  | .ip ch 0 :: r => (cloV r).map (ch :: ·)
  | _ => none
def cloA (chs : List (List D)) : List V := chs.map fun ch => .ip ch 0

def aEff (P : Program) (C : Cx) (st : St) (o : Oper) (K : St → Prop) : Prop := match o.op, o.dst with
  | .assign x, some d => aAssign P C st o.type d (st.ev x) K
  | .alloc t, some d => aAlloc P C st t d K
  | .convert s t x, some d => (st.ev x).ok ∧ aConv P st s t (st.ev x).str d K
  | .box t x, some d => (st.ev x).ok ∧ aBox C st d (st.ev x).str K
  | .buildSlice t len parts, some d => okP st parts.toList ∧ aBuildSlice P C st t len d (parts.toList.map (·.1)) (parts.toList.map fun p => (st.ev p.2).str) K
  | .makeSlice t x y, some d => (st.ev x).ok ∧ (st.ev y).ok ∧ aMake P C st t d (st.ev x).str (st.ev y).str K
  | .store t x y, d => (st.ev x).ok ∧ (st.ev y).ok ∧ aStore P st t (st.ev x).str (st.ev y).str d K
  | .makeFunc (.func f) first captured, some d => first.toList = [] ∧ okX st captured.toList ∧ match cloV (captured.toList.map fun x => (st.ev x).str) with
    | some chs => ev (b := ⟨K⟩) (st.set d (.clo f chs))
    | none => False
  | .call c, d => match c.callee with
    | .builtin .append => match c.args.toList, c.argTypes.toList, d with
      | [x, y], [t, t'], some d => t' = t ∧ (st.ev x).ok ∧ (st.ev y).ok ∧ aAppend P C st t d (st.ev x).str (st.ev y).str K
      | _, _, _ => False
    | .value (.func f) => okX st c.args.toList ∧ aCallB (b := ⟨K⟩) P C st f (c.args.toList.map fun x => (st.ev x).str) d
    | .value (.tmp t) => match st.get t with
      | .clo f chs => okX st c.args.toList ∧ aCallB (b := ⟨K⟩) P C st f ((c.args.toList.map fun x => (st.ev x).str) ++ cloA chs) d
      | _ => False
    | _ => False
  | _, _ => False

/-- Two ways. -/
def br (c : Bool) [b : PB] : Prop := (c = true → b.p) ∧ (c = false → b.q)
theorem br_true (p q : Prop) : @br true ⟨p, q⟩ = p := by simp [br]
theorem br_false (p q : Prop) : @br false ⟨p, q⟩ = q := by simp [br]
theorem br_eq (c : Bool) (p q : Prop) : @br c ⟨p, q⟩ = ((c = true → p) ∧ (c = false → q)) := rfl

def aOp1 (P : Program) (C : Cx) (st : St) (o : Oper) (K : St → Prop) : Prop := match aPure2 P o st with
  | some (s, v) => s ∧ ev (b := ⟨K⟩) (setDst st o.dst v)
  | none => aEff P C st o K

def gOp (P : Program) (C : Cx) (st : St) (o : Oper) (c : Bool) (K : St → Prop) : Prop := match aPure2 P o st with
  | some (s, v) => (c = true → s) ∧ ev (b := ⟨K⟩) (setDst st o.dst (.cond c v))
  | none => br (b := ⟨aEff P C st o K, ev (b := ⟨K⟩) (setDst st o.dst .und)⟩) c

def aOper (P : Program) (C : Cx) (ops : Array Oper) (st : St) (o : Oper) (K : St → Prop) : Prop := match o.guard with
  | none => aOp1 P C st o K
  | some (j, want) => match (ops[j]?).bind (·.dst) with
    | some g => match st.get g with
      | .sc (.bool b) => gOp P C st o (b == want) K
      | .cond c (.sc (.bool b)) => gOp P C st o (c && (b == want)) K
      | .und => ev (b := ⟨K⟩) (setDst st o.dst .und)
      | .cond false _ => ev (b := ⟨K⟩) (setDst st o.dst .und)
      | _ => False
    | none => ev (b := ⟨K⟩) (setDst st o.dst .und)

def dstOk (st : St) (o : Oper) : Prop := match o.dst with
  | some d => d < st.nt
  | none => True

def aOps (P : Program) (C : Cx) (ops : Array Oper) : List Oper → St → (St → Prop) → Prop
  | [], st, K => K st
  | o :: r, st, K => dstOk st o ∧ aOper P C ops st o (fun st' => aOps P C ops r st' K)

/-- A state's like with what lies in memory. -/
def Up (P : Program) (C : Cx) (K : St → Prop) (a : Act) (w : World) : Prop := ∃ st gh, K st ∧ Rep P C No st a w gh

section
variable {P : Program} {w w1 : World} {C : Cx} {X : Nat → Prop} {gh : Gh} {st : St} {a : Act} {v : V} {u : Value} {ob : List (Nat × Ob)} {S : Nat → Prop} {K : St → Prop}

theorem Comes1.wp {o : Oper} {Q : Exit → Act → World → Prop} (h : Comes1 P C o a w K) : o.wp P a w (Up P C K) Q := by
  obtain ⟨nx, w', hr, h⟩ := h
  unfold Oper.wp
  rw [hr]
  rcases h with ⟨y, rfl, st', gh', hk, hR⟩ | ⟨rfl, st', gh', hk, hR⟩
  · exact ⟨st', gh', hk, hR⟩
  · exact ⟨st', gh', hk, hR⟩

theorem run_enter {f : FuncId} {args : Array Value} (h : entersB P f = true) : (callFunc f args).run P w = .ok (.enter f args) w := by
  unfold entersB at h
  cases hf : P.funcs[f]? with
  | none => simp [hf] at h
  | some fn =>
    simp only [hf, Bool.and_eq_true, bne_iff_ne, ne_eq] at h
    simp [callFunc, hf, h.1, Option.isNone_iff_eq_none, Option.isSome_iff_ne_none.1 h.2]

theorem cloV_sound : ∀ {vs : List V} {us : List Value} {chs : List (List D)}, cloV vs = some chs → us.length = vs.length → (∀ i v, vs[i]? = some v → VR P w gh ob v (us.getD i undef)) →
    us.length = chs.length ∧ ∀ i ch, chs[i]? = some ch → ∃ (b f : Nat) (U : Nat → Value), us.getD i undef = .pointer (some ⟨b, f, none⟩) ∧ gh.S b ∧ ∀ q d, ch[q]? = some d → w.cell? ⟨b, f + q, none⟩ = some (U q) ∧ Ro P w gh.S d (U q)
  | [], us, chs, h, hl, hv => by
    simp only [cloV, Option.some.injEq] at h
    subst h
    exact ⟨hl, fun i ch hi => by simp at hi⟩
  | v :: r, [], chs, h, hl, hv => by simp at hl
  | v :: r, u :: us, chs, h, hl, hv => by
    have h0 := hv 0 v rfl
    simp only [List.getD_cons_zero] at h0
    unfold cloV at h
    split at h
    · rename_i heq; cases heq
    · rename_i ch r' heq
      cases heq
      obtain ⟨chs', hc, rfl⟩ := Option.map_eq_some_iff.1 h
      obtain ⟨g1, g2⟩ := cloV_sound (us := us) hc (by simpa using hl) (fun i v hi => by have := hv (i + 1) v (by simpa using hi); simpa using this)
      refine ⟨by simp [g1], fun i c hi => ?_⟩
      cases i with
      | zero =>
        simp at hi; subst hi
        cases h0 with
        | @ip _ _ b f U hs hh => exact ⟨b, f, U, by simp, hs, hh⟩
      | succ i =>
        have := g2 i c (by simpa using hi)
        simpa using this
    · cases h

theorem eff_sound (hz : Sized P) (h : Rep P C No st a w gh) {o : Oper} {Q : Exit → Act → World → Prop} (hd : dstOk st o) (hk : aEff P C st o K) : o.wp P a w (Up P C K) Q := by
  unfold aEff at hk
  split at hk
  · rename_i x d ho hdst
    simp only [dstOk, hdst] at hd
    exact (assign_sound h ho hdst hd hk).wp
  · rename_i t d ho hdst
    simp only [dstOk, hdst] at hd
    exact (alloc_sound h ho hdst hd hk).wp
  · rename_i s t x d ho hdst
    simp only [dstOk, hdst] at hd
    exact (conv_bytes_sound h ho hdst hd hk.1 hk.2).wp
  · rename_i t x d ho hdst
    simp only [dstOk, hdst] at hd
    exact (box_sound h ho hdst hd hk.1 hk.2 (fun vs _ => toDs_nt vs st)).wp
  · rename_i t len parts d ho hdst
    simp only [dstOk, hdst] at hd
    exact (buildSlice_sound h ho hdst hd (okP_mem hk.1) hk.2 hz).wp
  · rename_i t x y d ho hdst
    simp only [dstOk, hdst] at hd
    exact (make_sound h ho hdst hd hk.1 hk.2.1 hk.2.2 hz).wp
  · rename_i t x y ho
    exact (store_sound h ho (fun k hk => by rw [dstOk, hk] at hd; exact hd) hk.1 hk.2.1 hk.2.2).wp
  · rename_i f first captured d ho hdst
    obtain ⟨h1, h2, hk⟩ := hk
    split at hk
    case h_2 => exact hk.elim
    rename_i chs hc
    have hfirst : first = #[] := by cases first; simpa using h1
    subst hfirst
    have harg : ∀ (i : Nat) (v : V), (captured.toList.map fun x => (st.ev x).str)[i]? = some v → VR P w gh st.ob v ((captured.toList.map a.eval).getD i undef) := fun i v hv => by
      simp only [List.getElem?_map, Option.map_eq_some_iff, Array.getElem?_toList] at hv
      obtain ⟨x, hx, rfl⟩ := hv
      have := h.use x (okX_mem h2 x (by simpa using Array.mem_of_getElem? hx))
      have e1 : (captured.toList.map a.eval).getD i undef = a.eval x := by simp [List.getD, hx]
      rw [e1]; exact this
    obtain ⟨g1, g2⟩ := cloV_sound hc (by simp) harg
    have hrun : (execOp a.eval o).run P w = .ok (.value (.func (.func f) #[] (captured.map a.eval))) w := by
      simp [execOp, ho, Instr.makeFunc, Sem.run_bind]
    have hclo : CloR P w gh.S chs (captured.map a.eval) := ⟨by rw [← g1]; simp, fun i ch hi => by
      obtain ⟨b, f, U, q1, q2⟩ := g2 i ch hi
      refine ⟨b, f, U, ?_, q2⟩
      rw [← q1, Array.getD_eq_getD_getElem?, List.getD]
      simp⟩
    unfold Oper.wp
    rw [hrun]
    have := h.dst (d := o.dst) (fun k hk => by rw [dstOk, hk] at hd; exact hd) (VR.clo (f := f) hclo)
    rw [hdst] at this
    refine ⟨st.set d (.clo f chs), gh, hk, ?_⟩
    show Rep P C No (st.set d (.clo f chs)) (a.put o.dst _) w gh
    rw [hdst]
    exact this
  · rename_i c ho
    split at hk
    · rename_i hc
      split at hk
      · rename_i x y t t' d ha ht hdst
        obtain ⟨rfl, h1, h2, hk⟩ := hk
        simp only [dstOk, hdst] at hd
        exact (append_sound h ho hc ha ht hdst hd h1 h2 hz hk).wp
      · exact hk.elim
    · rename_i f hc
      obtain ⟨hok, hk⟩ := hk
      have harg : ∀ (i : Nat) (v : V), (c.args.toList.map fun x => (st.ev x).str)[i]? = some v → VR P w gh st.ob v ((c.args.map a.eval).getD i undef) := fun i v hv => by
        simp only [List.getElem?_map, Option.map_eq_some_iff, Array.getElem?_toList] at hv
        obtain ⟨x, hx, rfl⟩ := hv
        have := h.use x (okX_mem hok x (by simpa using Array.mem_of_getElem? hx))
        have e1 : (c.args.map a.eval).getD i undef = a.eval x := by rw [Array.getD_eq_getD_getElem?]; simp [hx]
        rw [e1]; exact this
      rcases hk with ⟨hen, hcall⟩ | ⟨hen, hcall⟩
      · have hrun : (execOp a.eval o).run P w = .ok (.enter f (c.args.map a.eval)) w := by
          have := run_enter (P := P) (w := w) (args := c.args.map a.eval) hen
          simp [execOp, ho, resolve, hc, Act.eval, Deferred.ofValue, invoke, Sem.run_bind, this]
        unfold Oper.wp
        rw [hrun, Oper.upon_enter]
        refine (hcall a w gh (c.args.map a.eval) h (by simp) harg (fun k hk => by rw [dstOk, hk] at hd; exact hd)).mono (fun e w' he => ?_)
        obtain ⟨v, rfl, st', gh', hK, hR⟩ := he
        exact ⟨st', gh', hK, hR⟩
      · obtain ⟨v, hrun, st', gh', hK, hR⟩ := hcall a w gh (c.args.map a.eval) h (by simp) harg (fun k hk => by rw [dstOk, hk] at hd; exact hd)
        have hrun : (execOp a.eval o).run P w = .ok (.value v) w := by
          simp [execOp, ho, resolve, hc, Act.eval, Deferred.ofValue, invoke, Sem.run_bind, hrun]
        unfold Oper.wp
        rw [hrun]
        exact ⟨st', gh', hK, hR⟩
    · rename_i t hc
      split at hk
      case h_2 => exact hk.elim
      rename_i f chs hget
      obtain ⟨hok, hk⟩ := hk
      have htm := h.tms t
      rw [hget] at htm
      obtain ⟨ucs, hu, hclo⟩ : ∃ ucs, a.tmps.getD t undef = .func (.func f) #[] ucs ∧ CloR P w gh.S chs ucs := by
        generalize a.tmps.getD t undef = z at htm
        cases htm with
        | clo hc => exact ⟨_, rfl, hc⟩
      have harg : ∀ (i : Nat) (v : V), ((c.args.toList.map fun x => (st.ev x).str) ++ cloA chs)[i]? = some v → VR P w gh st.ob v ((c.args.map a.eval ++ ucs).getD i undef) := fun i v hv => by
        by_cases hi : i < c.args.size
        · rw [List.getElem?_append_left (by simpa using hi)] at hv
          simp only [List.getElem?_map, Option.map_eq_some_iff, Array.getElem?_toList] at hv
          obtain ⟨x, hx, rfl⟩ := hv
          have := h.use x (okX_mem hok x (by simpa using Array.mem_of_getElem? hx))
          have e1 : (c.args.map a.eval ++ ucs).getD i undef = a.eval x := by rw [Array.getD_eq_getD_getElem?, Array.getElem?_append_left (by simpa using hi)]; simp [hx]
          rw [e1]; exact this
        · rw [List.getElem?_append_right (by simpa using hi)] at hv
          simp only [List.length_map, Array.length_toList, cloA, List.getElem?_map, Option.map_eq_some_iff] at hv
          obtain ⟨ch, hch, rfl⟩ := hv
          obtain ⟨b, f', U, q1, q2, q3⟩ := hclo.2 _ ch hch
          have e1 : (c.args.map a.eval ++ ucs).getD i undef = ucs.getD (i - c.args.size) undef := by rw [Array.getD_eq_getD_getElem?, Array.getElem?_append_right (by simpa using hi), Array.getD_eq_getD_getElem?]; simp
          rw [e1, q1]
          have := VR.ip (P := P) (w := w) (gh := gh) (ob := st.ob) (j := 0) U q2 q3
          simpa using this
      have hsz : (c.args.map a.eval ++ ucs).size = ((c.args.toList.map fun x => (st.ev x).str) ++ cloA chs).length := by simp [cloA, hclo.1]
      rcases hk with ⟨hen, hcall⟩ | ⟨hen, hcall⟩
      · have hrun : (execOp a.eval o).run P w = .ok (.enter f (c.args.map a.eval ++ ucs)) w := by
          have := run_enter (P := P) (w := w) (args := c.args.map a.eval ++ ucs) hen
          simp [execOp, ho, resolve, hc, Act.eval, hu, Deferred.ofValue, invoke, Sem.run_bind, this]
        unfold Oper.wp
        rw [hrun, Oper.upon_enter]
        refine (hcall a w gh (c.args.map a.eval ++ ucs) h hsz harg (fun k hk => by rw [dstOk, hk] at hd; exact hd)).mono (fun e w' he => ?_)
        obtain ⟨v, rfl, st', gh', hK, hR⟩ := he
        exact ⟨st', gh', hK, hR⟩
      · obtain ⟨v, hrun, st', gh', hK, hR⟩ := hcall a w gh (c.args.map a.eval ++ ucs) h hsz harg (fun k hk => by rw [dstOk, hk] at hd; exact hd)
        have hrun : (execOp a.eval o).run P w = .ok (.value v) w := by
          simp [execOp, ho, resolve, hc, Act.eval, hu, Deferred.ofValue, invoke, Sem.run_bind, hrun]
        unfold Oper.wp
        rw [hrun]
        exact ⟨st', gh', hK, hR⟩
    · exact hk.elim
  · exact hk.elim

theorem op1_sound (hz : Sized P) (h : Rep P C No st a w gh) {o : Oper} {Q : Exit → Act → World → Prop} (hd : dstOk st o) (hk : aOp1 P C st o K) : o.wp P a w (Up P C K) Q := by
  unfold aOp1 at hk
  split at hk
  · rename_i s v hp
    obtain ⟨y, hr, hv⟩ := pure_sound2 hz h hp hk.1
    unfold Oper.wp
    rw [hr]
    exact ⟨_, gh, hk.2, h.dst (fun k hk => by rw [dstOk, hk] at hd; exact hd) hv⟩
  · exact eff_sound hz h hd hk

theorem dst_lt {o : Oper} (hd : dstOk st o) : ∀ k, o.dst = some k → k < st.nt := fun k hk => by rw [dstOk, hk] at hd; exact hd

theorem gOp_sound (hz : Sized P) (h : Rep P C No st a w gh) {o : Oper} {Q : Exit → Act → World → Prop} {c b : Bool} (hd : dstOk st o) (hc : b = c) (hk : gOp P C st o c K) : if b then o.wp P a w (Up P C K) Q else Up P C K (a.put o.dst undef) w := by
  subst hc
  unfold gOp at hk
  split at hk
  · rename_i s v hp
    cases b with
    | true =>
      rw [if_pos rfl]
      obtain ⟨y, hr, hv⟩ := pure_sound2 hz h hp (hk.1 rfl)
      unfold Oper.wp
      rw [hr]
      exact ⟨_, gh, hk.2, h.dst (dst_lt hd) (.cond (fun _ => hv) (fun h => by cases h))⟩
    | false =>
      rw [if_neg (by simp)]
      exact ⟨_, gh, hk.2, h.dst (dst_lt hd) (.cond (fun h => by cases h) (fun _ => rfl))⟩
  · cases b with
    | true => rw [if_pos rfl]; exact eff_sound hz h hd (hk.1 rfl)
    | false => rw [if_neg (by simp)]; exact ⟨_, gh, hk.2 rfl, h.dst (dst_lt hd) .und⟩

theorem oper_sound (hz : Sized P) (h : Rep P C No st a w gh) {ops : Array Oper} {o : Oper} {Q : Exit → Act → World → Prop} (hd : dstOk st o) (hk : aOper P C ops st o K) :
    if Region.wanted o (yielded ops a.tmps) then o.wp P a w (Up P C K) Q else Up P C K (a.put o.dst undef) w := by
  unfold aOper at hk
  split at hk
  · rename_i hg
    have : Region.wanted o (yielded ops a.tmps) = true := by simp [Region.wanted, hg]
    rw [if_pos this]
    exact op1_sound hz h hd hk
  · rename_i j want hg
    have hw : Region.wanted o (yielded ops a.tmps) = (yielded ops a.tmps j == some want) := by simp [Region.wanted, hg]
    rw [hw]
    unfold yielded
    have none_case : Up P C K (a.put o.dst undef) w → if ((none : Option Bool) == some want) = true then o.wp P a w (Up P C K) Q else Up P C K (a.put o.dst undef) w := fun hh => by
      rw [if_neg (by simp)]; exact hh
    split at hk
    · rename_i g hgd
      rw [hgd, Option.bind_some]
      have ht := h.tms g
      have hget : ∀ b, a.tmps.getD g undef = .bool b → a.tmps[g]? = some (.bool b) := fun b hb => by
        rw [Array.getD_eq_getD_getElem?] at hb
        cases hq : a.tmps[g]? with
        | none => rw [hq] at hb; cases hb
        | some z => rw [hq] at hb; simp at hb; rw [hb]
      have hund : a.tmps.getD g undef = undef → a.tmps[g]? = none ∨ a.tmps[g]? = some undef := fun hb => by
        rw [Array.getD_eq_getD_getElem?] at hb
        cases hq : a.tmps[g]? with
        | none => exact Or.inl rfl
        | some z => rw [hq] at hb; simp at hb; rw [hb]; exact Or.inr rfl
      split at hk
      · rename_i b hv
        rw [hv] at ht
        have hb := hget b ht.sc_inv
        rw [hb]
        exact gOp_sound hz h hd (by cases b <;> cases want <;> rfl) hk
      · rename_i c b hv
        rw [hv] at ht
        cases hcc : c with
        | true =>
          subst hcc
          cases ht with
          | cond h1 h2 =>
            have hb := hget b (h1 rfl).sc_inv
            rw [hb]
            exact gOp_sound hz h hd (by cases b <;> cases want <;> rfl) hk
        | false =>
          subst hcc
          cases ht with
          | cond h1 h2 =>
            rcases hund (h2 rfl) with hb | hb <;> rw [hb]
            · exact gOp_sound hz h hd (by simp) hk
            · exact gOp_sound hz h hd (by simp [undef]) hk
      · rename_i hv
        rw [hv] at ht
        have hb : a.tmps.getD g undef = undef := by
          generalize a.tmps.getD g undef = z at ht
          cases ht; rfl
        have hfin : Up P C K (a.put o.dst undef) w := ⟨_, gh, hk, h.dst (dst_lt hd) .und⟩
        rcases hund hb with hb | hb <;> rw [hb]
        · exact none_case hfin
        · exact none_case hfin
      · rename_i v' _ hv
        rw [hv] at ht
        have hb : a.tmps.getD g undef = undef := by
          generalize a.tmps.getD g undef = z at ht
          cases ht with
          | cond h1 h2 => exact h2 rfl
        have hfin : Up P C K (a.put o.dst undef) w := ⟨_, gh, hk, h.dst (dst_lt hd) .und⟩
        rcases hund hb with hb | hb <;> rw [hb]
        · exact none_case hfin
        · exact none_case hfin
      · exact hk.elim
    · rename_i hgd
      rw [hgd]
      exact none_case ⟨_, gh, hk, h.dst (dst_lt hd) .und⟩

theorem aPure2_mono {s : Prop} {v : V} {K K' : St → Prop} (hK : ∀ st, K st → K' st) : (s ∧ K (setDst st none v)) → (s ∧ K' (setDst st none v)) := fun h => ⟨h.1, hK _ h.2⟩

theorem ops_sound (hz : Sized P) {ops : Array Oper} {Q : Exit → Act → World → Prop} : ∀ (l : List Oper) {st : St} {a : Act} {w : World} {gh : Gh}, Rep P C No st a w gh → aOps P C ops l st K → (∀ a w, Up P C K a w → Q .normal a w) → wpList P ops Q l a w
  | [], st, a, w, gh, h, hk, hQ => hQ a w ⟨st, gh, hk, h⟩
  | o :: r, st, a, w, gh, h, hk, hQ => by
    obtain ⟨hd, hk⟩ := hk
    have := oper_sound (Q := Q) hz h hd hk
    unfold wpList
    split
    · rename_i hw
      rw [if_pos hw] at this
      exact Or.inl (Oper.wp_mono (fun a' w' ⟨st', gh', hk', h'⟩ => ops_sound hz r h' hk' hQ) this)
    · rename_i hw
      rw [if_neg hw] at this
      obtain ⟨st', gh', hk', h'⟩ := this
      exact ops_sound hz r h' hk' hQ

/-- Code does its work. -/
def Tri (P : Program) (C : Cx) (st : St) (c : Code) (Q : Exit → St → Prop) : Prop :=
  ∀ (a : Act) (w : World) (gh : Gh), Rep P C No st a w gh → c.wp P (fun e a' w' => Up P C (Q e) a' w') a w

class QB where
  q : Exit → St → Prop
/-- The same; what is to come is not looked into. -/
def TriB (P : Program) (C : Cx) (st : St) [c : Inhabited Code] [b : QB] : Prop := Tri P C st c.default b.q

def Exit.seq (N : St → Prop) (Q : Exit → St → Prop) : Exit → St → Prop
  | .normal, st => N st
  | e, st => Q e st

def Exit.blk (id : Nat) (Q : Exit → St → Prop) : Exit → St → Prop
  | .exit j, st => if j = id then Q .normal st else Q (.exit j) st
  | e, st => Q e st

def aCode (P : Program) (C : Cx) : Code → St → (Exit → St → Prop) → Prop
  | .skip, st, Q => Q .normal st
  | .region id ops draw, st, Q => match draw with
    | false => aOps P C ops ops.toList st (Q .normal)
    | true => TriB (c := ⟨.region id ops true⟩) (b := ⟨Q⟩) P C st
  | .seq x y, st, Q => aCode P C x st (Exit.seq (fun st' => aCode P C y st' Q) Q)
  | .cond c x y, st, Q => (st.ev c).ok ∧ match (st.ev c).str with
    | .sc (.bool b) => br (b := ⟨aCode P C x st Q, aCode P C y st Q⟩) b
    | _ => False
  | .block id c, st, Q => aCode P C c st (Exit.blk id Q)
  | .exit id, st, Q => Q (.exit id) st
  | .ret, st, Q => Q .ret st
  | c, st, Q => TriB (c := ⟨c⟩) (b := ⟨Q⟩) P C st

theorem Tri.seq {x y : Code} {Q : Exit → St → Prop} (h : Tri P C st x (Exit.seq (fun st' => Tri P C st' y Q) Q)) : Tri P C st (.seq x y) Q := by
  intro a w gh hR
  refine wp_seq (Code.wp_mono (fun e a' w' hq => ?_) (h a w gh hR))
  cases e with
  | normal =>
    obtain ⟨st', gh', hk, hR'⟩ := hq
    exact hk a' w' gh' hR'
  | _ => exact hq

theorem code_sound (hz : Sized P) : ∀ (c : Code) {st : St} {Q : Exit → St → Prop}, aCode P C c st Q → Tri P C st c Q
  | .skip, st, Q, h => fun a w gh hR => wp_skip ⟨st, gh, h, hR⟩
  | .region id ops false, st, Q, h => fun a w gh hR => wp_region_list (ops_sound (K := Q .normal) hz _ hR h (fun a w h => h))
  | .region id ops true, st, Q, h => h
  | .seq x y, st, Q, h => Tri.seq (fun a w gh hR => Code.wp_mono (fun e a' w' hq => by
      cases e with
      | normal =>
        obtain ⟨st', gh', hk, hR'⟩ := hq
        exact ⟨st', gh', code_sound hz y hk, hR'⟩
      | _ => exact hq) (code_sound hz x h a w gh hR))
  | .cond c x y, st, Q, h => fun a w gh hR => by
    obtain ⟨hok, h⟩ := h
    have hv := hR.use c hok
    split at h
    · rename_i b hb
      rw [hb] at hv
      exact wp_cond_split (t := b) hv.sc_inv (fun ht => code_sound hz x (h.1 ht) a w gh hR) (fun hf => code_sound hz y (h.2 hf) a w gh hR)
    · exact h.elim
  | .block id c, st, Q, h => fun a w gh hR => wp_block (Code.wp_mono (fun e a' w' hq => by
      cases e with
      | exit j =>
        obtain ⟨st', gh', hk, hR'⟩ := hq
        simp only [Exit.inBlock]
        simp only [Exit.blk] at hk
        split
        · rename_i hj; rw [if_pos hj] at hk; exact ⟨st', gh', hk, hR'⟩
        · rename_i hj; rw [if_neg hj] at hk; exact ⟨st', gh', hk, hR'⟩
      | _ => exact hq) (code_sound hz c h a w gh hR))
  | .exit id, st, Q, h => fun a w gh hR => wp_exit ⟨st, gh, h, hR⟩
  | .ret, st, Q, h => fun a w gh hR => wp_ret ⟨st, gh, h, hR⟩
  | .loop c, st, Q, h => h
  | .rangeFunc .., st, Q, h => h
  | .scope _, st, Q, h => h
  | .label _, st, Q, h => h
  | .goto _, st, Q, h => h
  | .refuse _, st, Q, h => h
end
end Go.Proofs.Ytldniggehdpheaa.AW

namespace Go.Proofs.Ytldniggehdpheaa.AW
open Go.RowKit
set_option linter.unusedSimpArgs false
set_option linter.unusedVariables false

theorem wp_loop2 {P : Program} {Q : Exit → Act → World → Prop} {a : Act} {w : World} {c : Code} (I : Nat → Act → World → Prop) (n₀ : Nat) (h₀ : I n₀ a w)
    (round : ∀ n a w, I n a w → c.wp P (Exit.then (fun a' w' => ∃ m, m < n ∧ I m a' w') Q) a w) : (Code.loop c).wp P Q a w := by
  intro b k cs
  have key : ∀ n a w, I n a w →
      ∃ e a' w', Q e a' w' ∧ Arrives P (lone (b.at a (.code c :: .inLoop c :: k)) cs w) b k cs e a' w' := by
    intro n
    induction n using Nat.strongRecOn with
    | _ n ih =>
      intro a w hI
      obtain ⟨e, a₁, w₁, hq, harr⟩ := round n a w hI b (.inLoop c :: k) cs
      cases e with
      | normal =>
        obtain ⟨m, hlt, hI₁⟩ := hq
        obtain ⟨e₂, a₂, w₂, hq₂, harr₂⟩ := ih m hlt a₁ w₁ hI₁
        exact ⟨e₂, a₂, w₂, hq₂, .of_steps (Steps.trans harr (.one step_inLoop)) harr₂⟩
      | exit id => exact ⟨_, a₁, w₁, hq, .pass (x := .inLoop c) rfl (fun _ _ => .inl (by simp)) harr⟩
      | goto l => exact ⟨_, a₁, w₁, hq, .pass (x := .inLoop c) rfl (fun _ _ => .inl (by simp)) harr⟩
      | ret => exact ⟨_, a₁, w₁, hq, .pass (x := .inLoop c) rfl (fun _ _ => .inl (by simp)) harr⟩
      | panic ch => exact ⟨_, a₁, w₁, hq, .pass (x := .inLoop c) rfl (fun _ _ => .inl (by simp)) harr⟩
      | outgrown => exact ⟨_, a₁, w₁, hq, .pass (x := .inLoop c) rfl (fun _ _ => .inl (by simp)) harr⟩
  obtain ⟨e, a', w', hq, harr⟩ := key n₀ a w h₀
  exact ⟨e, a', w', hq, .of_steps (.one step_loop) harr⟩

/-- Where the one is known, the other is. -/
def Ent (P : Program) (C : Cx) (st st' : St) : Prop := ∀ (a : Act) (w : World) (gh : Gh), Rep P C No st a w gh → ∃ gh', Rep P C No st' a w gh'

def subT (st : St) : List (Nat × V) → Prop
  | [] => True
  | (t, v) :: r => st.get t = v ∧ subT st r
def subB (st : St) : List (Nat × Ob) → Prop
  | [] => True
  | (o, x) :: r => look st.ob o = some x ∧ subB st r

mutual
/-- All objects that are spoken of are there. -/
def hereV (ob : List (Nat × Ob)) : V → Prop
  | .ref o _ _ => (look ob o).isSome = true
  | .bp o _ => (look ob o).isSome = true
  | .rp o _ _ _ => (look ob o).isSome = true
  | .agg vs => hereL ob vs
  | .tup vs => hereL ob vs
  | .cond _ v => hereV ob v
  | _ => True
def hereL (ob : List (Nat × Ob)) : List V → Prop
  | [] => True
  | v :: r => hereV ob v ∧ hereL ob r
end
def hereT (ob : List (Nat × Ob)) : List (Nat × V) → Prop
  | [] => True
  | (_, v) :: r => hereV ob v ∧ hereT ob r

section
variable {P : Program} {w w1 : World} {C : Cx} {X : Nat → Prop} {gh : Gh} {st st' st'' : St} {a : Act} {v : V} {u : Value} {ob ob' : List (Nat × Ob)} {S : Nat → Prop} {K : St → Prop}

theorem Ent.refl : Ent P C st st := fun a w gh h => ⟨gh, h⟩
theorem Ent.trans (h : Ent P C st st') (h' : Ent P C st' st'') : Ent P C st st'' := fun a w gh hr => by
  obtain ⟨g, h1⟩ := h a w gh hr
  exact h' a w g h1

theorem hereL_get {ob : List (Nat × Ob)} : ∀ {vs : List V}, hereL ob vs → ∀ (i : Nat) (v : V), vs[i]? = some v → hereV ob v
  | [], _, i, v, h => by simp at h
  | x :: r, h, 0, v, hv => by simp at hv; subst hv; exact h.1
  | x :: r, h, i + 1, v, hv => hereL_get h.2 i v (by simpa using hv)

theorem VR.part (h : VR P w gh ob v u) (hh : hereV ob' v) (hs : ∀ o x, look ob' o = some x → look ob o = some x) : VR P w gh ob' v u := by
  induction h with
  | dead => exact .dead
  | und => exact .und
  | sc h => exact .sc h
  | nil => exact .nil
  | imm h => exact .imm h
  | ref hx hn hle =>
    obtain ⟨y, hy⟩ := Option.isSome_iff_exists.1 hh
    have := hs _ _ hy; rw [hx] at this; cases this
    exact .ref hy hn hle
  | bp hx =>
    obtain ⟨y, hy⟩ := Option.isSome_iff_exists.1 hh
    have := hs _ _ hy; rw [hx] at this; cases this
    exact .bp hy
  | rp hx hn =>
    obtain ⟨y, hy⟩ := Option.isSome_iff_exists.1 hh
    have := hs _ _ hy; rw [hx] at this; cases this
    exact .rp hy hn
  | ip U hs' h => exact .ip U hs' h
  | clo h => exact .clo h
  | agg hl h1 h ih => exact .agg hl h1 fun i v hv => ih i v hv (hereL_get hh i v hv)
  | tup hl h ih => exact .tup hl fun i v hv => ih i v hv (hereL_get hh i v hv)
  | cond ht hf ih => exact .cond (fun hc => ih hc hh) hf

theorem subT_get : ∀ {l : List (Nat × V)}, subT st l → ∀ t v, look l t = some v → st.get t = v
  | [], _, t, v, h => by simp [look] at h
  | (k, x) :: r, h, t, v, hv => by
    simp only [look] at hv
    by_cases e : t = k
    · rw [if_pos e] at hv; cases hv; rw [e]; exact h.1
    · rw [if_neg e] at hv; exact subT_get h.2 t v hv
theorem subB_get : ∀ {l : List (Nat × Ob)}, subB st l → ∀ o x, look l o = some x → look st.ob o = some x
  | [], _, t, v, h => by simp [look] at h
  | (k, x) :: r, h, t, v, hv => by
    simp only [look] at hv
    by_cases e : t = k
    · rw [if_pos e] at hv; cases hv; rw [e]; exact h.1
    · rw [if_neg e] at hv; exact subB_get h.2 t v hv
theorem hereT_get {ob : List (Nat × Ob)} : ∀ {l : List (Nat × V)}, hereT ob l → ∀ t v, look l t = some v → hereV ob v
  | [], _, t, v, h => by simp [look] at h
  | (k, x) :: r, h, t, v, hv => by
    simp only [look] at hv
    by_cases e : t = k
    · rw [if_pos e] at hv; cases hv; exact h.1
    · rw [if_neg e] at hv; exact hereT_get h.2 t v hv

theorem Rep.part (h : Rep P C X st a w gh) (hb : ∀ o x, look st'.ob o = some x → look st.ob o = some x) (ht : ∀ t, VR P w gh st'.ob (st'.get t) (a.tmps.getD t undef)) (hn : st'.nt ≤ st.nt) : Rep P C X st' a w gh where
  obs := fun o b ho => h.obs o b (hb o b ho)
  dis := fun o o' b b' k ho ho' => h.dis o o' b b' k (hb _ _ ho) (hb _ _ ho')
  sS := h.sS
  nS := fun o b k ho => h.nS o b k (hb _ _ ho)
  wrR := fun o e es k ho => h.wrR o e es k (hb _ _ ho)
  wrB := fun o cs k ho => h.wrB o cs k (hb _ _ ho)
  wrC := fun o cs j ho => h.wrC o cs j (hb _ _ ho)
  kept := h.kept
  pins := fun o x hp hn => h.pins o x hp (fun e => by
    cases hq : look st'.ob o with
    | none => exact hn hq
    | some y => have := hb _ _ hq; rw [e] at this; cases this)
  tms := ht
  nt := Nat.le_trans hn h.nt
  dfs := h.dfs
  xl := h.xl
  xS := h.xS
  xF := fun o b k ho => h.xF o b k (hb _ _ ho)
  xW := h.xW
  s0S := h.s0S
  sZ := h.sZ

/-- Less is known. -/
theorem Ent.weak (h1 : subT st st'.tm) (h2 : subB st st'.ob) (h3 : st'.nt ≤ st.nt) (h4 : hereT st'.ob st'.tm) : Ent P C st st' := fun a w gh h => by
  refine ⟨gh, h.part (subB_get h2) (fun t => ?_) h3⟩
  unfold St.get
  cases hq : look st'.tm t with
  | none => exact .dead
  | some v =>
    have e := subT_get h1 t v hq
    have := h.tms t
    rw [e] at this
    exact this.part (hereT_get h4 t v hq) (subB_get h2)

theorem Tri.ent {c : Code} {Q : Exit → St → Prop} (h : Tri P C st' c Q) (he : Ent P C st st') : Tri P C st c Q := fun a w gh hR => by
  obtain ⟨gh', hR'⟩ := he a w gh hR
  exact h a w gh' hR'

theorem Tri.mono {c : Code} {Q Q' : Exit → St → Prop} (h : Tri P C st c Q) (hq : ∀ e st, Q e st → Q' e st) : Tri P C st c Q' := fun a w gh hR =>
  Code.wp_mono (fun e a' w' ⟨s, g, hk, hr⟩ => ⟨s, g, hq _ _ hk, hr⟩) (h a w gh hR)

/-- .. also behind it. -/
theorem Tri.post {c : Code} {Q Q' : Exit → St → Prop} (h : Tri P C st c Q) (hq : ∀ e st, Q e st → ∃ st', Ent P C st st' ∧ Q' e st') : Tri P C st c Q' := fun a w gh hR =>
  Code.wp_mono (fun e a' w' ⟨s, g, hk, hr⟩ => by
    obtain ⟨s', he, hk'⟩ := hq _ _ hk
    obtain ⟨g', hr'⟩ := he _ _ _ hr
    exact ⟨s', g', hk', hr'⟩) (h a w gh hR)

theorem Tri.loop {c : Code} {Q : Exit → St → Prop} {ι : Type} (Inv : ι → Prop) (f : ι → St) (m : ι → Nat) (i0 : ι) (hi : Inv i0) (h0 : Ent P C st (f i0))
    (round : ∀ i, Inv i → Tri P C (f i) c (Exit.seq (fun st' => ∃ j, Inv j ∧ m j < m i ∧ Ent P C st' (f j)) Q)) : Tri P C st (.loop c) Q := fun a w gh hR => by
  obtain ⟨gh0, hR0⟩ := h0 a w gh hR
  refine wp_loop2 (fun n a w => ∃ i gh, Inv i ∧ m i = n ∧ Rep P C No (f i) a w gh) (m i0) ⟨i0, gh0, hi, rfl, hR0⟩ (fun n a w ⟨i, gh, hI, hm, hr⟩ => ?_)
  refine Code.wp_mono (fun e a' w' hq => ?_) (round i hI a w gh hr)
  cases e with
  | normal =>
    obtain ⟨s, g, ⟨j, hj, hlt, he⟩, hr'⟩ := hq
    obtain ⟨g', hr''⟩ := he _ _ _ hr'
    exact ⟨m j, hm ▸ hlt, j, g', hj, rfl, hr''⟩
  | _ => exact hq

/-- A sequence with a stop in between. -/
theorem aSeq {x y : Code} {Q : Exit → St → Prop} {ι : Type} (f : ι → St) (h1 : Tri P C st x (Exit.seq (fun st' => ∃ i, Ent P C st' (f i)) Q)) (h2 : ∀ i, Tri P C (f i) y Q) : Tri P C st (.seq x y) Q :=
  Tri.seq (h1.mono fun e s hs => by
    cases e with
    | normal => obtain ⟨i, he⟩ := hs; exact (h2 i).ent he
    | _ => exact hs)
end

/-! ### Rows that are written no more -/
mutual
def shD : D → D
  | .row _ e es => .row true e (shLL es)
  | .sc v => .sc v
  | .dead => .dead
def shLL : List (List D) → List (List D)
  | [] => []
  | l :: r => shL l :: shLL r
def shL : List D → List D
  | [] => []
  | d :: r => shD d :: shL r
end

theorem shL_map : ∀ l : List D, shL l = l.map shD
  | [] => rfl
  | d :: r => by simp [shL, shL_map r]
theorem shLL_map : ∀ l : List (List D), shLL l = l.map shL
  | [] => rfl
  | d :: r => by simp [shLL, shLL_map r]

theorem cellAt_sh {es : List (List D)} {i j : Nat} : cellAt (shLL es) i j = (cellAt es i j).map shD := by
  unfold cellAt
  rw [shLL_map, List.getElem?_map]
  cases es[i]? with
  | none => rfl
  | some l => simp only [Option.map_some, Option.bind_some]; rw [shL_map, List.getElem?_map]

section
variable {P : Program} {w w1 : World} {C : Cx} {X : Nat → Prop} {gh : Gh} {st st' st'' : St} {a : Act} {v : V} {u : Value} {ob ob' : List (Nat × Ob)} {S S' : Nat → Prop} {K : St → Prop} {d : D} {F : Nat → Prop}

theorem Ro.sh (h : Ro P w S d u) : Ro P w S (shD d) u := by
  induction h with
  | dead h => exact .dead h
  | sc h => exact .sc h
  | @row sh e es A c U hl hm hsz hA hU ih =>
    have hlen : (shLL es).length = es.length := by rw [shLL_map, List.length_map]
    simp only [shD]
    rw [← hlen]
    refine .row U (by omega) hm (fun l hl => ?_) (fun h0 => ?_) (fun i j d hd => ?_)
    · rw [shLL_map] at hl
      obtain ⟨l', hl', rfl⟩ := List.mem_map.1 hl
      rw [shL_map, List.length_map]; exact hsz l' hl'
    · obtain ⟨ad, h1, h2, h3, h4⟩ := hA (by omega)
      refine ⟨ad, h1, h2, h3, fun i j d hd => ?_⟩
      rw [cellAt_sh] at hd
      obtain ⟨d', hd', rfl⟩ := Option.map_eq_some_iff.1 hd
      exact h4 i j d' hd'
    · rw [cellAt_sh] at hd
      obtain ⟨d', hd', rfl⟩ := Option.map_eq_some_iff.1 hd
      exact ih i j d' hd'

end
end Go.Proofs.Ytldniggehdpheaa.AW

namespace Go.Proofs.Ytldniggehdpheaa.AW
open Go.RowKit
set_option linter.unusedSimpArgs false
set_option linter.unusedVariables false

mutual
def frzV (o : Nat) (e : TypeId) (es : List (List D)) : V → V
  | .ref o' p n => if o' = o then (match p with | [] => .imm e (shLL (es.take n)) | _ => .dead) else .ref o' p n
  | .bp o' j => if o' = o then .dead else .bp o' j
  | .rp o' p i j => if o' = o then .dead else .rp o' p i j
  | .agg vs => .agg (frzL o e es vs)
  | .tup vs => .tup (frzL o e es vs)
  | .cond c v => .cond c (frzV o e es v)
  | .dead => .dead
  | .und => .und
  | .sc v => .sc v
  | .nil t => .nil t
  | .imm t l => .imm t l
  | .ip ch j => .ip ch j
  | .clo f chs => .clo f chs
def frzL (o : Nat) (e : TypeId) (es : List (List D)) : List V → List V
  | [] => []
  | v :: r => frzV o e es v :: frzL o e es r
end

def St.frz (st : St) (o : Nat) : St := match look st.ob o with
  | some (.row e es) => { st with tm := mapT (frzV o e es) st.tm, ob := drop st.ob o }
  | _ => st

section
variable {P : Program} {w w1 : World} {C : Cx} {X : Nat → Prop} {gh : Gh} {st st' st'' : St} {a : Act} {v : V} {u : Value} {ob ob' : List (Nat × Ob)} {S S' : Nat → Prop} {K : St → Prop} {d : D} {F : Nat → Prop}

theorem frzL_get (o : Nat) (e : TypeId) (es : List (List D)) (vs : List V) (i : Nat) : (frzL o e es vs)[i]? = (vs[i]?).map (frzV o e es) := by
  induction vs generalizing i with
  | nil => simp [frzL]
  | cons v r ih => cases i <;> simp [frzL, ih]
theorem frzL_length (o : Nat) (e : TypeId) (es : List (List D)) (vs : List V) : (frzL o e es vs).length = vs.length := by
  induction vs with
  | nil => rfl
  | cons v r ih => simp [frzL, ih]

def Gh.more (gh : Gh) (F : Nat → Prop) : Gh := { gh with S := fun k => gh.S k ∨ F k }

theorem ObR.mono {o : Nat} {x : Ob} (h : ObR P w gh o x) : ObR P w (gh.more F) o x := by
  cases h with
  | row h => exact .row (h.mono (fun k hk => Or.inl hk))
  | box xs G hb hl h1 hc hx dis nb hF => exact .box xs G hb hl h1 hc (fun j d hd => (hx j d hd).mono (fun k hk => Or.inl hk)) dis nb hF

theorem VR.frz (h : VR P w gh ob v u) {o : Nat} {e : TypeId} {es : List (List D)} (ho : look ob o = some (.row e es)) (hob : ObR P w gh o (.row e es)) : VR P w (gh.more (gh.F o)) (drop ob o) (frzV o e es v) u := by
  have hne : ∀ o' x, o' ≠ o → look ob o' = some x → look (drop ob o) o' = some x := fun o' x hne hx => by rw [look_drop, if_neg (fun e => hne e.symm)]; exact hx
  induction h with
  | dead => exact .dead
  | und => exact .und
  | sc h => exact .sc h
  | nil => exact .nil
  | imm h => exact .imm (h.mono (fun k hk => Or.inl hk))
  | @ref o' n p x e' es' A c hx hn hle =>
    simp only [frzV]
    by_cases heq : o' = o
    · rw [if_pos heq]
      subst heq
      rw [ho] at hx; cases hx
      cases p with
      | cons q p => exact .dead
      | nil =>
        obtain ⟨rfl, rfl, hv⟩ := navO_nil hn
        cases hob with
        | row how =>
          rw [hv] at how
          have hro : Ro P w (gh.more (gh.F o')).S (.row false e es) (.slice A es.length c) := how.ro (fun k hk => Or.inr hk) (fun k hk => Or.inl hk)
          have hp := Ro.part hro.sh (l := 0) (h := n) (Nat.zero_le _) (by rw [shLL_map, List.length_map]; exact hle)
          have e6 : (Option.map (fun x => x.add (0 * szT P e)) A) = A := by cases A <;> simp [Addr.add]
          rw [e6] at hp
          simp only [ite_self, Nat.sub_zero, List.drop_zero] at hp
          have e7 : (shLL es).take n = shLL (es.take n) := by rw [shLL_map, shLL_map, List.map_take]
          rw [e7] at hp
          exact .imm hp
    · rw [if_neg heq]
      exact .ref (hne o' x heq hx) (hn.ghc rfl rfl rfl) hle
  | @bp o' j cs hx =>
    simp only [frzV]
    by_cases heq : o' = o
    · rw [if_pos heq]; exact .dead
    · rw [if_neg heq]; exact .bp (gh := gh.more (gh.F o)) (hne o' _ heq hx)
  | @rp o' i j p x e' es' ad c hx hn =>
    simp only [frzV]
    by_cases heq : o' = o
    · rw [if_pos heq]; exact .dead
    · rw [if_neg heq]; exact .rp (hne o' x heq hx) (hn.ghc rfl rfl rfl)
  | ip U hs h => exact .ip U (Or.inl hs) (fun q d hd => ⟨(h q d hd).1, (h q d hd).2.mono (fun k hk => Or.inl hk)⟩)
  | clo h => exact .clo (h.same (fun k hk => Or.inl hk))
  | agg hl h1 h ih =>
    simp only [frzV]
    refine .agg (by rw [frzL_length]; exact hl) h1 (fun i v hv => ?_)
    rw [frzL_get] at hv
    obtain ⟨v0, hv0, rfl⟩ := Option.map_eq_some_iff.1 hv
    exact ih i v0 hv0
  | tup hl h ih =>
    simp only [frzV]
    refine .tup (by rw [frzL_length]; exact hl) (fun i v hv => ?_)
    rw [frzL_get] at hv
    obtain ⟨v0, hv0, rfl⟩ := Option.map_eq_some_iff.1 hv
    exact ih i v0 hv0
  | cond ht hf ih => simp only [frzV]; exact .cond ih hf

/-- Whatever is one's own may be written no more. -/
def Cx.full (C : Cx) : Prop := ∀ k, (C.w0.heap.size ≤ k ∨ ∃ f, C.may k f) → C.z k

theorem Rep.frz (h : Rep P C X st a w gh) (hz : C.full) (o : Nat) : ∃ gh', Rep P C X (st.frz o) a w gh' := by
  unfold St.frz
  split
  case h_2 => exact ⟨gh, h⟩
  rename_i e es ho
  have hd : ∀ o' x, look (drop st.ob o) o' = some x → o' ≠ o ∧ look st.ob o' = some x := fun o' x hx => by
    rw [look_drop] at hx
    by_cases e1 : o = o'
    · rw [if_pos e1] at hx; cases hx
    · rw [if_neg e1] at hx; exact ⟨fun e => e1 e.symm, hx⟩
  refine ⟨gh.more (gh.F o), ?_⟩
  exact {
    obs := fun o' b hb => (h.obs o' b (hd o' b hb).2).mono
    dis := fun o1 o2 b1 b2 k h1 h2 => h.dis o1 o2 b1 b2 k (hd _ _ h1).2 (hd _ _ h2).2
    sS := fun k hk => hk.elim (h.sS k) (fun hk => (h.obs o _ ho).lt k hk)
    nS := fun o' b k hb hk hS => hS.elim (h.nS o' b k (hd _ _ hb).2 hk) (fun hk' => (hd _ _ hb).1 (h.dis o' o b _ k (hd _ _ hb).2 ho hk hk'))
    wrR := fun o' e' es' k hb => h.wrR o' e' es' k (hd _ _ hb).2
    wrB := fun o' cs k hb => h.wrB o' cs k (hd _ _ hb).2
    wrC := fun o' cs j hb => h.wrC o' cs j (hd _ _ hb).2
    kept := h.kept
    pins := fun o' x hp hn => h.pins o' x hp (fun e' => by
      cases hq : look (drop st.ob o) o' with
      | none => exact hn hq
      | some y => have := (hd _ _ hq).2; rw [e'] at this; cases this)
    tms := fun t => by
      have : St.get { st with tm := mapT (frzV o e es) st.tm, ob := drop st.ob o } t = frzV o e es (st.get t) := by
        unfold St.get; simp only [look_mapT]
        cases look st.tm t <;> simp [frzV]
      rw [this]
      exact (h.tms t).frz ho (h.obs o _ ho)
    nt := h.nt
    dfs := h.dfs
    xl := h.xl
    xS := fun k hk hS => hS.elim (h.xS k hk) (fun hk' => h.xF o _ k ho hk hk')
    xF := fun o' b k hb => h.xF o' b k (hd _ _ hb).2
    xW := h.xW
    s0S := fun k hk => Or.inl (h.s0S k hk)
    sZ := fun k hk => hk.elim (h.sZ k) (fun hk' => hz k ((h.wrR o e es k ho hk').imp id (fun hh => ⟨0, hh 0⟩))) }

theorem Ent.frz (hz : C.full) (o : Nat) : Ent P C st (st.frz o) := fun a w gh h => h.frz hz o
end

/-! ### What a function is asked -/
def isPin (o : Nat) : Bool := decide (2000 ≤ o) && decide (o < 3000)

abbrev RV := Bool × List D

def rvOf (v : V) (ds : List D) : RV := match v with
  | .agg _ => (true, ds)
  | _ => (false, ds)
def rvsOf : List V → List (List D) → List RV
  | v :: vs, d :: ds => rvOf v d :: rvsOf vs ds
  | _, _ => []

def tupV (vs : List Value) : Value := match vs with
  | [x] => x
  | vs => .tuple vs.toArray

def zipT {α : Type} : Nat → List α → List (Nat × α)
  | _, [] => []
  | k, v :: r => (k, v) :: zipT (k + 1) r

/-- A result's cells, each one's own, with their blocks. -/
structure Res (P : Program) (w : World) (S : Nat → Prop) (rs : List RV) (vs : List Value) (G : Nat → Nat → Nat → Prop) : Prop where
  len : rs.length = vs.length
  one : ∀ (i : Nat) (r : RV) (v : Value), rs[i]? = some r → vs[i]? = some v → r.1 = false → v.oneCell' = true
  agg : ∀ (i : Nat) (r : RV) (v : Value), rs[i]? = some r → vs[i]? = some v → r.1 = true → ∃ cs, v = .agg cs
  sz : ∀ (i : Nat) (r : RV) (v : Value), rs[i]? = some r → vs[i]? = some v → v.cells.size = r.2.length
  c1 : ∀ (i : Nat) (v : Value), vs[i]? = some v → ∀ x ∈ v.cells, x.oneCell' = true
  ow : ∀ (i : Nat) (r : RV) (v : Value) (j : Nat) (d : D), rs[i]? = some r → vs[i]? = some v → r.2[j]? = some d → Ow P w S d (v.cells.toList.getD j undef) (G i j)
  dis : ∀ (i j i' j' : Nat) (r r' : RV) (d d' : D) (k : Nat), rs[i]? = some r → r.2[j]? = some d → rs[i']? = some r' → r'.2[j']? = some d' → G i j k → G i' j' k → i = i' ∧ j = j'

/-- What is in hand of the results. -/
def inHand (rs : List RV) (G : Nat → Nat → Nat → Prop) (k : Nat) : Prop := ∃ (i j : Nat) (r : RV) (d : D), rs[i]? = some r ∧ r.2[j]? = some d ∧ G i j k

/-- What a call hands over: something to be looked at, or a row that is the callee's from then on. -/
inductive Arg where
  | ro (t : V)
  | mv (e : TypeId) (es : List (List D))

def argsV : Nat → List Arg → List V
  | _, [] => []
  | k, .ro t :: r => t :: argsV (k + 1) r
  | k, .mv e es :: r => .ref k [] es.length :: argsV (k + 1) r
def argsOb : Nat → List Arg → List (Nat × Ob)
  | _, [] => []
  | k, .ro t :: r => argsOb (k + 1) r
  | k, .mv e es :: r => (k, .row e es) :: argsOb (k + 1) r

/-- What a function does with arguments of which this is known. -/
def SoundAt (P : Program) (f : FuncId) (ts : (Nat → Value) → List V) (ob0 : List (Nat × Ob)) (post : List RV → St → Prop) : Prop :=
  entersB P f = true ∧ ∀ (uf : Nat → Value) (ub : Nat → Nat × Nat) (C : Cx) (w : World) (gh : Gh) (us : Array Value), C.w0 = w → (∀ o, isPin o = false → C.pin o = none) → (∀ o, isPin o = true → C.pin o = some (uf o, ub o)) → C.full → us.size = (ts uf).length →
    Rep P C No ⟨us.size, zipT 0 (ts uf), ob0⟩ ⟨us, []⟩ w gh →
    Calls P f us w (fun e w' => ∃ (vs : List Value) (rs : List RV) (st' : St) (a' : Act) (gh' : Gh) (G : Nat → Nat → Nat → Prop), e = .returned (tupV vs) ∧ post rs st' ∧ Res P w' gh'.S rs vs G ∧ Rep P C (inHand rs G) st' a' w' gh')

/-- .. and the same, an argument at a time. -/
def Sound (P : Program) (f : FuncId) (as : List Arg) (post : List RV → St → Prop) : Prop := SoundAt P f (fun _ => argsV 0 as) (argsOb 0 as) post

/-- Where a result lies: in a slot, or in a variable. -/
inductive RR where
  | tm (t : Nat)
  | ce (t : Nat) (ty : TypeId)
def RR.var : RR → ResultVar
  | .tm t => .tmp t
  | .ce t ty => .cell t ty
def getR (P : Program) (st : St) : RR → Prop × V
  | .tm t => ((st.get t).ok, (st.get t).str)
  | .ce t ty => ((st.get t).ok ∧ (loadV P st ty (st.get t).str).1 ∧ (loadV P st ty (st.get t).str).2.ok, (loadV P st ty (st.get t).str).2.str)
def valR (P : Program) (a : Act) (w : World) : RR → Value
  | .tm t => a.tmps.getD t undef
  | .ce t ty => match (Instr.loadAt ty (a.tmps.getD t undef)).run P w with
    | .ok y _ => y
    | _ => undef
def getsOk (P : Program) (st : St) : List RR → Prop
  | [] => True
  | t :: r => (getR P st t).1 ∧ getsOk P st r
def gets (P : Program) (st : St) : List RR → List V
  | [] => []
  | t :: r => (getR P st t).2 :: gets P st r
def finV (post : List RV → St → Prop) (st : St) (vs : List V) : Prop := match flats vs with
  | some fs => (toDss st fs).1 ∧ post (rvsOf vs (toDss st fs).2.2) (toDss st fs).2.1
  | none => False
def Fin (P : Program) (res : List RR) (post : List RV → St → Prop) (st : St) : Prop := getsOk P st res ∧ finV post st (gets P st res)

def FinE (P : Program) (res : List RR) (post : List RV → St → Prop) : Exit → St → Prop
  | .normal, st => Fin P res post st
  | .ret, st => Fin P res post st
  | _, _ => False

section
variable {P : Program} {w w1 : World} {C : Cx} {X : Nat → Prop} {gh : Gh} {st st' st'' : St} {a : Act} {v : V} {u : Value} {ob ob' : List (Nat × Ob)} {S S' : Nat → Prop} {K : St → Prop} {d : D} {F : Nat → Prop}

theorem getsOk_mem {st : St} : ∀ {res : List RR}, getsOk P st res → ∀ t ∈ res, (getR P st t).1
  | [], _, t, h => by simp at h
  | x :: r, h, t, ht => by
    rcases List.mem_cons.1 ht with rfl | ht
    · exact h.1
    · exact getsOk_mem h.2 t ht
theorem gets_map {st : St} : ∀ (res : List RR), gets P st res = res.map fun t => (getR P st t).2
  | [] => rfl
  | x :: r => by simp [gets, gets_map r]

theorem look_zipT {α : Type} : ∀ (l : List α) (k t : Nat), look (zipT k l) t = if k ≤ t then l[t - k]? else none
  | [], k, t => by simp [zipT, look]
  | v :: r, k, t => by
    simp only [zipT, look]
    by_cases h : t = k
    · subst h; simp
    · rw [if_neg h, look_zipT r (k + 1) t]
      by_cases h2 : k + 1 ≤ t
      · rw [if_pos h2, if_pos (by omega), show t - k = (t - (k + 1)) + 1 by omega, List.getElem?_cons_succ]
      · rw [if_neg h2, if_neg (by omega)]

theorem rvsOf_get : ∀ {vs : List V} {ds : List (List D)}, vs.length = ds.length → (rvsOf vs ds).length = vs.length ∧ ∀ (i : Nat) (r : RV), (rvsOf vs ds)[i]? = some r → ∃ v d, vs[i]? = some v ∧ ds[i]? = some d ∧ r = rvOf v d
  | [], [], _ => ⟨rfl, fun i r h => by simp [rvsOf] at h⟩
  | v :: vs, d :: ds, h => by
    obtain ⟨h1, h2⟩ := rvsOf_get (vs := vs) (ds := ds) (by simpa using h)
    refine ⟨by simp [rvsOf, h1], fun i r hr => ?_⟩
    cases i with
    | zero => simp [rvsOf] at hr; exact ⟨v, d, rfl, rfl, hr.symm⟩
    | succ i => simp only [rvsOf, List.getElem?_cons_succ] at hr ⊢; exact h2 i r hr
  | [], _ :: _, h => by simp at h
  | _ :: _, [], h => by simp at h

theorem rvOf_ds (v : V) (ds : List D) : (rvOf v ds).2 = ds := by cases v <;> rfl

theorem getR_sound (h : Rep P C X st a w gh) {r : RR} (hr : (getR P st r).1) : VR P w gh st.ob (getR P st r).2 (valR P a w r) ∧
    ∀ (t : Nat) (ty : TypeId), r = .ce t ty → (do loadVar ty (← asAddr (a.tmps.getD t undef)) : Sem Value).run P w = .ok (valR P a w r) w := by
  cases r with
  | tm t => exact ⟨(h.tms t).use hr, fun _ _ e => by cases e⟩
  | ce t ty =>
    obtain ⟨h1, h2, h3⟩ := hr
    obtain ⟨y, hy, hv⟩ := load_sound h ((h.tms t).use h1) h2
    have e1 : valR P a w (.ce t ty) = y := by simp only [valR, hy]
    rw [e1]
    refine ⟨hv.use h3, fun t' ty' e => ?_⟩
    cases e
    revert hy
    generalize a.tmps.getD t undef = u
    intro hy
    unfold Instr.loadAt Instr.sureAddr at hy
    unfold asAddr
    cases u with
    | pointer p =>
      cases p with
      | some ad => exact hy
      | none => simp [Sem.run_bind, stuck] at hy
    | _ => simp [Sem.run_bind, stuck] at hy

theorem results_tmps {fn : Func} {res : List RR} (hr : fn.results.toList = res.map RR.var) (h : Rep P C X st a w gh) (hok : ∀ r ∈ res, (getR P st r).1) : (results fn a.tmps).run P w = .ok (tupV (res.map (valR P a w))) w := by
  have key : ∀ (f : ResultVar → Sem Value), (∀ r ∈ res, (f r.var).run P w = .ok (valR P a w r) w) → ∀ (l : List RR), (∀ r ∈ l, r ∈ res) → ((l.map RR.var).mapM f).run P w = .ok (l.map (valR P a w)) w := by
    intro f hf l hl
    induction l with
    | nil => rfl
    | cons t l ih => simp only [List.map_cons, List.mapM_cons, Sem.run_bind, Sem.run_pure, Result.andThen_ok, ih (fun r hr => hl r (List.mem_cons_of_mem _ hr)), hf t (hl t (List.mem_cons_self ..))]
  unfold results
  rw [Array.mapM_eq_mapM_toList, hr, Sem.run_bind, Sem.run_map, key _ (fun r hr' => ?_) res (fun r h => h)]
  · generalize (res.map (valR P a w)) = l
    match l with
    | [] => rfl
    | [x] => rfl
    | x :: y :: r => simp [tupV]
  · have := getR_sound h (hok r hr')
    cases r with
    | tm t => rfl
    | ce t ty => exact this.2 t ty rfl

theorem fin_sound {fn : Func} {res : List RR} {post : List RV → St → Prop} (hres : fn.results.toList = res.map RR.var) (h : Rep P C No st a w gh) (hf : Fin P res post st) :
    a.defers = [] ∧ ∃ v, (results fn a.tmps).run P w = .ok v w ∧ ∃ (vs : List Value) (rs : List RV) (st' : St) (a' : Act) (gh' : Gh) (G : Nat → Nat → Nat → Prop), Ending.returned v = .returned (tupV vs) ∧ post rs st' ∧ Res P w gh'.S rs vs G ∧ Rep P C (inHand rs G) st' a' w gh' := by
  obtain ⟨hok, hf⟩ := hf
  replace hok := getsOk_mem hok
  rw [gets_map] at hf
  unfold finV at hf
  refine ⟨h.dfs, _, results_tmps hres h hok, res.map (valR P a w), ?_⟩
  split at hf
  case h_2 => exact hf.elim
  rename_i fs hfl
  obtain ⟨hs, hp⟩ := hf
  obtain ⟨hfl1, hfl2⟩ := flats_get hfl
  have hval : ∀ (i : Nat) (t : RR), res[i]? = some t → ∃ f, fs[i]? = some f ∧ flatV (getR P st t).2 = some f ∧ VR P w gh st.ob (getR P st t).2 (valR P a w t) ∧ (valR P a w t).cells.size = f.length ∧ (∀ x ∈ (valR P a w t).cells, x.oneCell' = true) ∧ ∀ j x, f[j]? = some x → VR P w gh st.ob x ((valR P a w t).cells.toList.getD j undef) := by
    intro i t hit
    obtain ⟨f, hf, hff⟩ := hfl2 i (getR P st t).2 (by simp [hit])
    have hv := (getR_sound h (hok t (List.mem_of_getElem? hit))).1
    obtain ⟨g1, g2, g3⟩ := flat_sound hv hff
    exact ⟨f, hf, hff, hv, g1, g2, g3⟩
  obtain ⟨gh1, G, hr, hS, hq, hdl, hdlen, how, hGX, hdis, _⟩ := toDss_sound (uss := res.map fun t => (valR P a w t).cells.toList) h (fun i' f hf j x hx => by
    have hil : i' < res.length := by
      have := (List.getElem?_eq_some_iff.1 hf).1
      rw [hfl1, List.length_map] at this; exact this
    obtain ⟨f', hf', _, _, _, _, h3⟩ := hval i' _ (List.getElem?_eq_getElem hil)
    rw [hf] at hf'; cases hf'
    have e1 : (res.map fun t => (valR P a w t).cells.toList).getD i' [] = (valR P a w res[i']).cells.toList := by
      simp [List.getD, List.getElem?_eq_getElem hil]
    rw [e1]; exact h3 j x hx) hs
  obtain ⟨rl, rg⟩ := rvsOf_get (vs := res.map fun t => (getR P st t).2) (ds := (toDss st fs).2.2) (by rw [hdl, hfl1])
  have hrs : ∀ (i : Nat) (r : RV), (rvsOf (res.map fun t => (getR P st t).2) (toDss st fs).2.2)[i]? = some r → ∃ t d, res[i]? = some t ∧ (toDss st fs).2.2[i]? = some d ∧ r = rvOf (getR P st t).2 d := fun i r hr => by
    obtain ⟨v, d, hv, hd, rfl⟩ := rg i r hr
    simp only [List.getElem?_map, Option.map_eq_some_iff] at hv
    obtain ⟨t, ht, rfl⟩ := hv
    exact ⟨t, d, ht, hd, rfl⟩
  have hvs : ∀ (i : Nat) (t : RR) (v : Value), res[i]? = some t → (res.map (valR P a w))[i]? = some v → v = valR P a w t := fun i t v ht hv => by
    simp only [List.getElem?_map, ht, Option.map_some, Option.some.injEq] at hv; exact hv.symm
  have hcell : ∀ (i j : Nat) (d : List D) (x : D), (toDss st fs).2.2[i]? = some d → d[j]? = some x → cellAt (toDss st fs).2.2 i j = some x := fun i j d x hd hx => by
    unfold cellAt; rw [hd, Option.bind_some, hx]
  refine ⟨rvsOf (res.map fun t => (getR P st t).2) (toDss st fs).2.2, _, a, gh1, G, rfl, hp, ?_, hr.less ?_⟩
  · refine ⟨by rw [rl]; simp, ?_, ?_, ?_, ?_, ?_, ?_⟩
    · intro i r v hr' hv h1
      obtain ⟨t, d, ht, hd, rfl⟩ := hrs i r hr'
      rw [hvs i t v ht hv]
      obtain ⟨f, hf, hff, hvr, _⟩ := hval i t ht
      generalize valR P a w t = u at hvr
      revert h1 hff
      generalize (getR P st t).2 = vv at hvr
      intro h1 hff
      cases hvr with
      | agg => simp [rvOf] at h1
      | sc h => exact h
      | nil => rfl
      | imm h => exact h.one
      | ref => rfl
      | _ => simp [flatV] at hff
    · intro i r v hr' hv h1
      obtain ⟨t, d, ht, hd, rfl⟩ := hrs i r hr'
      rw [hvs i t v ht hv]
      obtain ⟨f, hf, hff, hvr, _⟩ := hval i t ht
      generalize valR P a w t = u at hvr
      revert h1 hff
      generalize (getR P st t).2 = vv at hvr
      intro h1 hff
      cases hvr with
      | agg => exact ⟨_, rfl⟩
      | _ => simp [rvOf] at h1
    · intro i r v hr' hv
      obtain ⟨t, d, ht, hd, rfl⟩ := hrs i r hr'
      rw [hvs i t v ht hv, rvOf_ds]
      obtain ⟨f, hf, _, _, h1, _⟩ := hval i t ht
      obtain ⟨ds, h2, h3⟩ := hdlen i f hf
      rw [hd] at h2; cases h2
      rw [h1, h3]
    · intro i v hv
      simp only [List.getElem?_map, Option.map_eq_some_iff] at hv
      obtain ⟨t, ht, rfl⟩ := hv
      obtain ⟨f, _, _, _, _, h2, _⟩ := hval i t ht
      exact h2
    · intro i r v j x hr' hv hx
      obtain ⟨t, d, ht, hd, rfl⟩ := hrs i r hr'
      rw [rvOf_ds] at hx
      rw [hvs i t v ht hv, hS]
      have := how i j x (hcell i j d x hd hx)
      have e1 : (res.map fun t => (valR P a w t).cells.toList).getD i [] = (valR P a w t).cells.toList := by
        simp [List.getD, ht]
      rw [e1] at this; exact this
    · intro i j i' j' r r' x x' k hr1 hx hr2 hx' hk hk'
      obtain ⟨t, d, ht, hd, rfl⟩ := hrs i r hr1
      obtain ⟨t', d', ht', hd', rfl⟩ := hrs i' r' hr2
      rw [rvOf_ds] at hx hx'
      exact hdis i j i' j' x x' k (hcell i j d x hd hx) (hcell i' j' d' x' hd' hx') hk hk'
  · rintro k ⟨i, j, r, x, hr', hx, hk⟩
    obtain ⟨t, d, ht, hd, rfl⟩ := hrs i r hr'
    rw [rvOf_ds] at hx
    exact Or.inr ⟨i, j, x, hcell i j d x hd hx, hk⟩

/-- A function's code does what it is asked. -/
theorem sound_of_code {f : FuncId} {fn : Func} {c : Code} {res : List RR} {n : Nat} {ts : (Nat → Value) → List V} {ob0 : List (Nat × Ob)} {post : List RV → St → Prop} (hz : Sized P) (hf : P.funcs[f]? = some fn) (hb : fn.body = some c) (hen : entersB P f = true) (hres : fn.results.toList = res.map RR.var)
    (hn : fn.ntmps = n) (hnt : ∀ uf, (ts uf).length ≤ n) (h : ∀ (uf : Nat → Value) (ub : Nat → Nat × Nat) (C : Cx), (∀ o, isPin o = false → C.pin o = none) → (∀ o, isPin o = true → C.pin o = some (uf o, ub o)) → C.full → aCode P C c ⟨n, zipT 0 (ts uf), ob0⟩ (FinE P res post)) : SoundAt P f ts ob0 post := by
  refine ⟨hen, fun uf ub C w gh us hw hpin hpin2 hfull hus hR => ?_⟩
  have hnt := hnt uf
  have hrep : Rep P C No ⟨n, zipT 0 (ts uf), ob0⟩ { tmps := us ++ Array.replicate (fn.ntmps - us.size) undef, defers := [] } w gh := {
      obs := hR.obs, dis := hR.dis, sS := hR.sS, nS := hR.nS, wrR := hR.wrR, wrB := hR.wrB, wrC := hR.wrC, kept := hR.kept, pins := hR.pins
      tms := fun t => by
        have ht := hR.tms t
        have e1 : St.get ⟨n, zipT 0 (ts uf), ob0⟩ t = St.get ⟨us.size, zipT 0 (ts uf), ob0⟩ t := rfl
        rw [e1]
        by_cases hlt : t < us.size
        · have e2 : (us ++ Array.replicate (fn.ntmps - us.size) undef).getD t undef = us.getD t undef := by
            rw [Array.getD_eq_getD_getElem?, Array.getD_eq_getD_getElem?, Array.getElem?_append_left hlt]
          simp only [e2]; exact ht
        · have e3 : St.get ⟨us.size, zipT 0 (ts uf), ob0⟩ t = .dead := by
            unfold St.get; simp only [look_zipT, Nat.zero_le, if_true, Nat.sub_zero]
            rw [List.getElem?_eq_none (by omega)]; rfl
          rw [e3]; exact .dead
      nt := by simp only [Array.size_append, Array.size_replicate]; omega
      dfs := rfl
      xl := hR.xl, xS := hR.xS, xF := hR.xF, xW := hR.xW, s0S := hR.s0S, sZ := hR.sZ }
  refine calls_of_wp hf hb (Code.wp_mono (fun e a' w' hh => ?_) (code_sound hz c (h uf ub C hpin hpin2 hfull) _ w gh hrep))
  obtain ⟨st', gh', hk, hr⟩ := hh
  cases e with
  | normal => exact fin_sound hres hr hk
  | ret => exact fin_sound hres hr hk
  | _ => exact hk.elim

theorem sound_code {f : FuncId} {fn : Func} {c : Code} {res : List RR} {n : Nat} {as : List Arg} {post : List RV → St → Prop} (hz : Sized P) (hf : P.funcs[f]? = some fn) (hb : fn.body = some c) (hen : entersB P f = true) (hres : fn.results.toList = res.map RR.var)
    (hn : fn.ntmps = n) (hnt : (argsV 0 as).length ≤ n) (h : ∀ C, (∀ o, isPin o = false → C.pin o = none) → C.full → aCode P C c ⟨n, zipT 0 (argsV 0 as), argsOb 0 as⟩ (FinE P res post)) : Sound P f as post :=
  sound_of_code hz hf hb hen hres hn (fun _ => hnt) (fun _ _ C h1 _ h3 => h C h1 h3)
end
end Go.Proofs.Ytldniggehdpheaa.AW

namespace Go.Proofs.Ytldniggehdpheaa.AW
open Go.RowKit
set_option linter.unusedSimpArgs false
set_option linter.unusedVariables false

/-- How things are handed over. M: rows that the callee writes, and which of the caller's they are; uf: their values as the callee knows them; pv: what the caller knows of its own; ob: what is only lent; ob0: the callee's rows. -/
structure Lend where
  M : List (Nat × Nat)
  uf : Nat → Value
  pv : Nat → Option Value
  ob : List (Nat × Ob)
  ob0 : List (Nat × Ob)

def lookInv : List (Nat × Nat) → Nat → Option Nat
  | [], _ => none
  | (k, o') :: r, o => if o = o' then some k else lookInv r o
/-- A row's length. -/
def lenIs (ob0 : List (Nat × Ob)) (k n : Nat) : Prop := match look ob0 k with
  | some (.row _ es) => n = es.length
  | _ => False
def knownIs (L : Lend) (k : Nat) (v : Value) : Prop := match look L.M k with
  | some o => L.pv o = some v
  | none => False
def givenIs (L : Lend) (o n : Nat) (u : Value) : Prop := match lookInv L.M o with
  | some k => u = L.uf k ∧ lenIs L.ob0 k n
  | none => False

/-- A value that the caller knows to be a row's. -/
def pvOf (C : Cx) (o : Nat) : Option Value := (C.pin o).map (·.1)
def pinAs (L : Lend) (v v' : Value) : List (Nat × Nat) → Prop
  | [] => False
  | (k, o) :: r => (v' = L.uf k ∧ L.pv o = some v) ∨ pinAs L v v' r
def pinRow (L : Lend) (v : Value) (e : TypeId) (es : List (List D)) : List (Nat × Ob) → Prop
  | [] => False
  | (o, _) :: r => (L.pv o = some v ∧ match look L.ob o with
    | some (.row e' es') => e' = e ∧ shLL es' = es
    | _ => False) ∨ pinRow L v e es r

mutual
/-- What is handed over to be looked at, as the callee sees it. -/
def lendsTo (L : Lend) : V → V → Prop
  | .sc v, t => match t with
    | .sc v' => v = v' ∨ pinAs L v v' L.M
    | .imm e es => (v = .slice none 0 0 ∧ es = []) ∨ pinRow L v e es L.ob
    | .ref k [] n' => knownIs L k v ∧ lenIs L.ob0 k n'
    | _ => False
  | .nil _, t => match t with
    | .imm _ es => es = []
    | _ => False
  | .imm e es, t => match t with
    | .imm e' es' => e = e' ∧ es = es'
    | _ => False
  | .ref o p n, t => match t with
    | .imm e' es' => match (look L.ob o).bind (subO · p) with
      | some (.row false e es) => e = e' ∧ shLL (es.take n) = es'
      | _ => False
    | .ref k [] n' => p = [] ∧ look L.M k = some o ∧ n = n'
    | .sc u => p = [] ∧ givenIs L o n u
    | _ => False
  | .agg vs, t => match t with
    | .agg ts => lendsL L vs ts
    | _ => False
  | .ip ch j, t => match t with
    | .ip ch' j' => ch = ch' ∧ j = j'
    | _ => False
  | .clo f chs, t => match t with
    | .clo f' chs' => f = f' ∧ chs = chs'
    | _ => False
  | _, _ => False
def lendsL (L : Lend) : List V → List V → Prop
  | [], ts => ts = []
  | v :: vs, ts => match ts with
    | t :: ts => lendsTo L v t ∧ lendsL L vs ts
    | [] => False
end

/-- The rows that are handed over for good. -/
def takeM (st : St) : List V → List Arg → Prop × St
  | v :: vs, .ro _ :: as => takeM st vs as
  | v :: vs, .mv e es :: as => match v with
    | .ref o [] m => match look st.ob o with
      | some (.row e' es') => (m = es'.length ∧ e' = e ∧ es' = es ∧ (takeM (st.kill o) vs as).1, (takeM (st.kill o) vs as).2)
      | _ => (False, st)
    | .sc (.slice none 0 0) => (es = [] ∧ (takeM st vs as).1, (takeM st vs as).2)
    | .nil _ => (es = [] ∧ (takeM st vs as).1, (takeM st vs as).2)
    | _ => (False, st)
  | [], [] => (True, st)
  | _, _ => (False, st)

/-- What is handed over to be looked at, all of it. -/
def lendAll (L : Lend) : List V → List Arg → Prop
  | v :: vs, .ro t :: as => lendsTo L v t ∧ lendAll L vs as
  | _ :: vs, .mv _ _ :: as => lendAll L vs as
  | _, _ => True

mutual
def noSh : D → Bool
  | .row sh _ es => !sh && noShLL es
  | _ => true
def noShLL : List (List D) → Bool
  | [] => true
  | l :: r => noShL l && noShLL r
def noShL : List D → Bool
  | [] => true
  | d :: r => noSh d && noShL r
end
def noShR : List RV → Bool
  | [] => true
  | r :: rs => noShL r.2 && noShR rs

def objNo (d k : Nat) : Nat := 3000 + d + 100000 * k
def dVn (n : Nat) : D → V
  | .sc v => .sc v
  | .row false e es => .ref n [] es.length
  | .row true e es => .imm e es
  | .dead => .dead
def layD (st : St) (n : Nat) : D → St
  | .row false e es => st.fresh n (.row e es)
  | _ => st
def layL (st : St) : List (Nat × D) → St
  | [] => st
  | (n, d) :: r => layL (layD st n d) r
def numD (d : Nat) : Nat → List D → List (Nat × D)
  | _, [] => []
  | k, x :: r => (objNo d k, x) :: numD d (k + 1) r
def numR (d : Nat) : Nat → List RV → List (Nat × D)
  | _, [] => []
  | k, r :: rs => numD d k r.2 ++ numR d (k + r.2.length) rs
def vsD (d : Nat) : Nat → List D → List V
  | _, [] => []
  | k, x :: r => dVn (objNo d k) x :: vsD d (k + 1) r
def rV (d k : Nat) (r : RV) : V := match r with
  | (true, ds) => .agg (vsD d k ds)
  | (false, ds) => dVn (objNo d k) (ds.getD 0 .dead)
def vsR (d : Nat) : Nat → List RV → List V
  | _, [] => []
  | k, r :: rs => rV d k r :: vsR d (k + r.2.length) rs
def resV (d : Nat) (rs : List RV) : V := match rs with
  | [r] => rV d 0 r
  | rs => .tup (vsR d 0 rs)

/-- The state behind a call. -/
def after (st : St) (d : Option Nat) (rs : List RV) : St := match d with
  | none => st
  | some d => (layL st (numR d 0 rs)).set d (resV d rs)

section
variable {P : Program} {w w1 : World} {C : Cx} {X : Nat → Prop} {gh : Gh} {st st' st'' : St} {a : Act} {v : V} {u : Value} {ob ob' : List (Nat × Ob)} {S S' : Nat → Prop} {K : St → Prop} {d : D} {F : Nat → Prop}

theorem keptBut_heap {w w' : World} {may : MemPlace → Prop} (h : w.keptBut w' may) {k : Nat} (hk : k < w.heap.size) (h1 : ∀ f, ¬ may (.cell k f)) (h2 : ¬ may (.map k)) : w'.heap[k]? = w.heap[k]? := by
  have := h.2.2 k hk
  split at this
  · rename_i c t fr c' t' fr' e1 e2
    obtain ⟨rfl, rfl, h3, h4⟩ := this
    rw [e1, e2]
    have : c' = c := by
      apply Array.ext_getElem?
      intro j
      exact h4 j (h1 j)
    rw [this]
  · rename_i e1 e2
    rcases this with h | ⟨rfl, rfl⟩
    · exact (h2 h).elim
    · rw [e1, e2]
  · exact this

theorem noShLL_get : ∀ {es : List (List D)}, noShLL es = true → ∀ (i j : Nat) (d : D), cellAt es i j = some d → noSh d = true := by
  have hl : ∀ {l : List D}, noShL l = true → ∀ (j : Nat) (d : D), l[j]? = some d → noSh d = true := by
    intro l
    induction l with
    | nil => intro _ j d h; simp at h
    | cons x r ih =>
      intro h j d hd
      simp only [noShL, Bool.and_eq_true] at h
      cases j with
      | zero => simp at hd; subst hd; exact h.1
      | succ j => exact ih h.2 j d (by simpa using hd)
  intro es
  induction es with
  | nil => intro _ i j d h; simp [cellAt] at h
  | cons l r ih =>
    intro h i j d hd
    simp only [noShLL, Bool.and_eq_true] at h
    cases i with
    | zero => simp only [cellAt, List.getElem?_cons_zero, Option.bind_some] at hd; exact hl h.1 j d hd
    | succ i => exact ih h.2 i j d (by simpa [cellAt] using hd)

theorem noShL_get {l : List D} (h : noShL l = true) (j : Nat) (d : D) (hd : l[j]? = some d) : noSh d = true :=
  noShLL_get (es := [l]) (by simp [noShLL, h]) 0 j d (by simp [cellAt, hd])

theorem noShR_get : ∀ {rs : List RV}, noShR rs = true → ∀ (i : Nat) (r : RV), rs[i]? = some r → noShL r.2 = true
  | [], _, i, r, h => by simp at h
  | x :: rs, h, i, r, hr => by
    simp only [noShR, Bool.and_eq_true] at h
    cases i with
    | zero => simp at hr; subst hr; exact h.1
    | succ i => exact noShR_get h.2 i r (by simpa using hr)

theorem Ow.noSh (h : Ow P w S d u F) (hn : noSh d = true) : Ow P w S' d u F := by
  induction h with
  | dead h => exact .dead h
  | sc h => exact .sc h
  | shared h => simp [AW.noSh] at hn
  | row xs H own hsz h1 hx dis nb ih =>
    simp only [AW.noSh, Bool.not_false, Bool.true_and] at hn
    exact .row xs H own hsz h1 (fun i j d hd => ih i j d hd (noShLL_get hn i j d hd)) dis nb

theorem Rep.inhand (h : Rep P C X st a w gh) {X' : Nat → Prop} (xl : ∀ k, X' k → k < w.heap.size) (xS : ∀ k, X' k → ¬ gh.S k) (xF : ∀ o b k, look st.ob o = some b → X' k → ¬ gh.F o k) (xW : ∀ k, X' k → C.w0.heap.size ≤ k ∨ ∀ f, C.may k f) : Rep P C X' st a w gh where
  obs := h.obs
  dis := h.dis
  sS := h.sS
  nS := h.nS
  wrR := h.wrR
  wrB := h.wrB
  wrC := h.wrC
  kept := h.kept
  pins := h.pins
  tms := h.tms
  nt := h.nt
  dfs := h.dfs
  xl := xl
  xS := xS
  xF := xF
  xW := xW
  s0S := h.s0S
  sZ := h.sZ

theorem look_mem {α : Type} : ∀ {M : List (Nat × α)} {k : Nat} {o : α}, look M k = some o → (k, o) ∈ M
  | [], k, o, h => by simp [look] at h
  | (k', o') :: r, k, o, h => by
    simp only [look] at h
    by_cases e : k = k'
    · rw [if_pos e] at h; cases h; subst e; exact List.mem_cons_self
    · rw [if_neg e] at h; exact List.mem_cons_of_mem _ (look_mem h)

theorem lookInv_mem : ∀ {M : List (Nat × Nat)} {o k : Nat}, lookInv M o = some k → (k, o) ∈ M
  | [], o, k, h => by simp [lookInv] at h
  | (k', o') :: r, o, k, h => by
    simp only [lookInv] at h
    by_cases e : o = o'
    · rw [if_pos e] at h; cases h; subst e; exact List.mem_cons_self
    · rw [if_neg e] at h; exact List.mem_cons_of_mem _ (lookInv_mem h)

theorem row_slice {e : TypeId} {es : List (List D)} {v : Value} (h : Ow P w S (.row false e es) v F) : ∃ A c, v = .slice A es.length c := by
  cases h with
  | row xs H own =>
    rcases own.2 with ⟨h1, h2⟩ | ⟨g, cap, cur, h1, _⟩
    · rw [h1, h2]; exact ⟨_, _, rfl⟩
    · exact ⟨_, _, h1⟩

/-- What is lent is seen. -/
theorem pinAs_mem {L : Lend} {v v' : Value} : ∀ {M : List (Nat × Nat)}, pinAs L v v' M → ∃ k o, (k, o) ∈ M ∧ v' = L.uf k ∧ L.pv o = some v
  | [], h => h.elim
  | (k, o) :: r, h => by
    rcases h with ⟨h1, h2⟩ | h
    · exact ⟨k, o, List.mem_cons_self .., h1, h2⟩
    · obtain ⟨k', o', g1, g2, g3⟩ := pinAs_mem h
      exact ⟨k', o', List.mem_cons_of_mem _ g1, g2, g3⟩
theorem pinRow_mem {L : Lend} {v : Value} {e : TypeId} {es : List (List D)} : ∀ {l : List (Nat × Ob)}, pinRow L v e es l → ∃ o es', L.pv o = some v ∧ look L.ob o = some (.row e es') ∧ shLL es' = es
  | [], h => h.elim
  | (o, _) :: r, h => by
    rcases h with ⟨h1, h2⟩ | h
    · split at h2
      · rename_i e' es' hl
        obtain ⟨rfl, rfl⟩ := h2
        exact ⟨o, es', h1, hl, rfl⟩
      · exact h2.elim
    · exact pinRow_mem h

theorem lend_sound {L : Lend} {gh0 : Gh} (hM : ∀ k o, (k, o) ∈ L.M → ∃ e es, look ob o = some (.row e es) ∧ look L.ob0 k = some (.row e es) ∧ gh0.hv k = gh.hv o ∧ L.uf k = gh0.hv k) (hpv : ∀ o v, L.pv o = some v → (look ob o).isSome = true → gh.hv o = v) (hob : ∀ o x, look ob o = some x → ObR P w gh o x) (hS : ∀ k, gh.S k → gh0.S k) (hF : ∀ o x k, look L.ob o = some x → gh.F o k → gh0.S k) (hsub : ∀ o x, look L.ob o = some x → look ob o = some x) :
    ∀ {v : V} {u : Value}, VR P w gh ob v u → ∀ {t : V}, lendsTo L v t → VR P w gh0 L.ob0 t u := by
  intro v u h
  have nilRo : ∀ (e : TypeId), Ro P w gh0.S (.row true e []) (.slice none 0 0) := fun e =>
    Ro.row (es := []) (fun _ _ => undef) (Nat.le_refl _) (by unfold maxLen; omega) (by simp) (fun h => by simp at h) (fun i j d hd => by simp [cellAt] at hd)
  induction h with
  | dead => intro t h; exact h.elim
  | und => intro t h; exact h.elim
  | sc hv =>
    intro t h
    unfold lendsTo at h
    split at h
    · rcases h with h | h
      · subst h; exact .sc hv
      · obtain ⟨k, o, hm, h1, h2⟩ := pinAs_mem h
        obtain ⟨e, es, g1, g2, g3, g4⟩ := hM _ _ hm
        have hv' := hpv o _ h2 (by rw [g1]; rfl)
        rw [h1, g4, g3, hv']
        exact .sc hv
    · rcases h with h | h
      · obtain ⟨rfl, rfl⟩ := h; exact .imm (nilRo _)
      · obtain ⟨o, es', h1, h2, rfl⟩ := pinRow_mem h
        have g1 := hsub o _ h2
        have hv' := hpv o _ h1 (by rw [g1]; rfl)
        have := hob o _ g1
        cases this with
        | row how =>
          rw [hv'] at how
          have hro := (how.ro (S' := gh0.S) (fun k hk => hF o _ k h2 hk) hS).sh
          exact .imm hro
    · obtain ⟨h1, h2⟩ := h
      unfold knownIs at h1
      split at h1
      case h_2 => exact h1.elim
      rename_i o ho
      obtain ⟨e, es, g1, g2, g3, g4⟩ := hM _ _ (look_mem ho)
      have hv' := hpv o _ h1 (by rw [g1]; rfl)
      simp only [lenIs, g2] at h2
      have hsl : ∃ A c, gh.hv o = .slice A es.length c := by
        have := hob o _ g1
        cases this with
        | row how => exact row_slice how
      obtain ⟨A, c, hsl⟩ := hsl
      rw [← hv', hsl, h2]
      exact VR.whole g2 (g3.trans hsl) (Nat.le_refl _)
    · exact h.elim
  | nil =>
    intro t h
    unfold lendsTo at h
    split at h
    · subst h; exact .imm (nilRo _)
    · exact h.elim
  | imm hr =>
    intro t h
    unfold lendsTo at h
    split at h
    · obtain ⟨rfl, rfl⟩ := h; exact .imm (hr.mono hS)
    · exact h.elim
  | @ref o n p x e es A c hx hn hle =>
    intro t h
    unfold lendsTo at h
    split at h
    case h_4 => exact h.elim
    case h_2 =>
      obtain ⟨rfl, hk, rfl⟩ := h
      obtain ⟨e1, es1, h1, h2, h3, _⟩ := hM _ _ (look_mem hk)
      rw [hx] at h1; cases h1
      obtain ⟨rfl, rfl, hv'⟩ := navO_nil hn
      exact VR.whole h2 (h3.trans hv') hle
    case h_3 =>
      obtain ⟨rfl, h⟩ := h
      unfold givenIs at h
      split at h
      case h_2 => exact h.elim
      rename_i k hk
      obtain ⟨hu, hlen⟩ := h
      obtain ⟨e1, es1, h1, h2, h3, h4⟩ := hM _ _ (lookInv_mem hk)
      rw [hx] at h1; cases h1
      obtain ⟨rfl, rfl, hv'⟩ := navO_nil hn
      simp only [lenIs, h2] at hlen
      subst hlen
      rw [hu, h4, h3, hv']
      exact .sc rfl
    rename_i e' es'
    split at h
    case h_2 => exact h.elim
    rename_i e2 es2 hq
    obtain ⟨rfl, rfl⟩ := h
    obtain ⟨x', hx', hq⟩ := Option.bind_eq_some_iff.1 hq
    have := hsub o x' hx'
    rw [hx] at this; cases this
    have hs := hn.sub
    rw [hs] at hq; cases hq
    obtain ⟨v', F', n1, n2, n3, _⟩ := (hob o x hx).up hs
    obtain ⟨_, e2⟩ := hn.fn n1
    subst e2
    have hro : Ro P w gh0.S (.row false e es) (.slice A es.length c) := n2.ro (fun k hk => hF o x k hx' (n3 k hk)) hS
    have hp := Ro.part hro.sh (l := 0) (h := n) (Nat.zero_le _) (by rw [shLL_map, List.length_map]; exact hle)
    have e6 : (Option.map (fun x => x.add (0 * szT P e)) A) = A := by cases A <;> simp [Addr.add]
    rw [e6] at hp
    simp only [ite_self, Nat.sub_zero, List.drop_zero] at hp
    have e7 : (shLL es).take n = shLL (es.take n) := by rw [shLL_map, shLL_map, List.map_take]
    rw [e7] at hp
    exact .imm hp
  | bp => intro t h; exact h.elim
  | rp => intro t h; exact h.elim
  | ip U hs hh =>
    intro t h
    unfold lendsTo at h
    split at h
    · obtain ⟨rfl, rfl⟩ := h; exact .ip U (hS _ hs) (fun q d hd => ⟨(hh q d hd).1, (hh q d hd).2.mono hS⟩)
    · exact h.elim
  | clo hc =>
    intro t h
    unfold lendsTo at h
    split at h
    · obtain ⟨rfl, rfl⟩ := h; exact .clo (hc.same hS)
    · exact h.elim
  | tup => intro t h; exact h.elim
  | cond => intro t h; exact h.elim
  | @agg vs us hl h1 hh ih =>
    intro t h
    unfold lendsTo at h
    split at h
    case h_2 => exact h.elim
    rename_i ts
    have key : ∀ (vs ts : List V) (k : Nat), lendsL L vs ts → vs.length = ts.length ∧ ∀ (i : Nat) (v t : V), vs[i]? = some v → ts[i]? = some t → lendsTo L v t := by
      intro vs
      induction vs with
      | nil => intro ts k h; simp only [lendsL] at h; subst h; exact ⟨rfl, fun i v t hv => by simp at hv⟩
      | cons v vs ih =>
        intro ts k h
        unfold lendsL at h
        split at h
        · rename_i t ts
          obtain ⟨h1, h2⟩ := ih ts (k + 1) h.2
          refine ⟨by simp [h1], fun i v' t' hv ht => ?_⟩
          cases i with
          | zero => simp at hv ht; subst hv; subst ht; exact h.1
          | succ i => exact h2 i v' t' (by simpa using hv) (by simpa using ht)
        · exact h.elim
    obtain ⟨k1, k2⟩ := key vs ts 0 h
    refine .agg (by omega) h1 (fun i t ht => ?_)
    have hi := (List.getElem?_eq_some_iff.1 ht).1
    have hv : vs[i]? = some vs[i] := List.getElem?_eq_getElem (by omega)
    exact ih i _ hv (k2 i _ t hv ht)

/-- What is known of the rows that are handed over. O: which row of the caller's is which argument. -/
theorem take_sound : ∀ {vs : List V} {as : List Arg} {st : St} {X : Nat → Prop} (q : Nat), Rep P C X st a w gh → (takeM st vs as).1 → ∃ (O : Nat → Option Nat), Rep P C (fun k => X k ∨ ∃ i o, O i = some o ∧ gh.F o k) (takeM st vs as).2 a w gh ∧ vs.length = as.length ∧
    (takeM st vs as).2.nt = st.nt ∧
    (∀ i e es, as[i]? = some (.mv e es) → (∃ o, O (q + i) = some o ∧ vs[i]? = some (.ref o [] es.length) ∧ look st.ob o = some (.row e es)) ∨ (O (q + i) = none ∧ es = [] ∧ (vs[i]? = some (.sc (.slice none 0 0)) ∨ ∃ t, vs[i]? = some (.nil t)))) ∧
    (∀ i j o, O i = some o → O j = some o → i = j) ∧ (∀ i o, O i = some o → q ≤ i ∧ i < q + as.length ∧ (∃ x, look st.ob o = some x)) ∧
    (∀ o x, look (takeM st vs as).2.ob o = some x → look st.ob o = some x ∧ ∀ i, O i ≠ some o)
  | v :: vs, .ro t :: as, st, X, q, h, hs => by
    obtain ⟨O, h1, h2, h2n, h3, h4, h5, h6⟩ := take_sound (vs := vs) (as := as) (q + 1) h hs
    refine ⟨O, h1, by simp [h2], h2n, fun i e es hi => ?_, h4, fun i o hi => ?_, h6⟩
    · cases i with
      | zero => simp at hi
      | succ i =>
        have := h3 i e es (by simpa using hi)
        rw [show q + 1 + i = q + (i + 1) by omega] at this
        simpa using this
    · obtain ⟨g1, g2, g3⟩ := h5 i o hi
      exact ⟨by omega, by simp only [List.length_cons]; omega, g3⟩
  | v :: vs, .mv e es :: as, st, X, q, h, hs => by
    have nilcase : ∀ (v : V), (v = .sc (.slice none 0 0) ∨ ∃ t, v = .nil t) → (es = [] ∧ (takeM st vs as).1) → ∃ (O : Nat → Option Nat), Rep P C (fun k => X k ∨ ∃ i o, O i = some o ∧ gh.F o k) (takeM st vs as).2 a w gh ∧ (v :: vs).length = (Arg.mv e es :: as).length ∧
        (takeM st vs as).2.nt = st.nt ∧
        (∀ i e' es', (Arg.mv e es :: as)[i]? = some (.mv e' es') → (∃ o, O (q + i) = some o ∧ (v :: vs)[i]? = some (.ref o [] es'.length) ∧ look st.ob o = some (.row e' es')) ∨ (O (q + i) = none ∧ es' = [] ∧ ((v :: vs)[i]? = some (.sc (.slice none 0 0)) ∨ ∃ t, (v :: vs)[i]? = some (.nil t)))) ∧
        (∀ i j o, O i = some o → O j = some o → i = j) ∧ (∀ i o, O i = some o → q ≤ i ∧ i < q + (Arg.mv e es :: as).length ∧ (∃ x, look st.ob o = some x)) ∧
        (∀ o x, look (takeM st vs as).2.ob o = some x → look st.ob o = some x ∧ ∀ i, O i ≠ some o) := by
      rintro v hv ⟨he0, hs'⟩
      subst he0
      obtain ⟨O, h1, h2, h2n, h3, h4, h5, h6⟩ := take_sound (vs := vs) (as := as) (q + 1) h hs'
      refine ⟨O, h1, by simp [h2], h2n, fun i e' es' hi => ?_, h4, fun i o hi => ?_, h6⟩
      · cases i with
        | zero =>
          simp only [List.getElem?_cons_zero, Option.some.injEq, Arg.mv.injEq] at hi
          obtain ⟨rfl, rfl⟩ := hi
          refine Or.inr ⟨?_, rfl, ?_⟩
          · cases hq : O (q + 0) with
            | none => rfl
            | some o => have := (h5 _ o hq).1; omega
          · rcases hv with rfl | ⟨t, rfl⟩
            · exact Or.inl rfl
            · exact Or.inr ⟨t, rfl⟩
        | succ i =>
          have := h3 i e' es' (by simpa using hi)
          rw [show q + 1 + i = q + (i + 1) by omega] at this
          simpa using this
      · obtain ⟨g1, g2, g3⟩ := h5 i o hi
        exact ⟨by omega, by simp only [List.length_cons]; omega, g3⟩
    unfold takeM at hs ⊢
    split at hs
    · rename_i o m
      split at hs
      case h_2 => exact hs.elim
      rename_i e' es' ho
      obtain ⟨rfl, rfl, rfl, hs⟩ := hs
      obtain ⟨O, h1, h2, h2n, h3, h4, h5, h6⟩ := take_sound (vs := vs) (as := as) (q + 1) (h.take ho) hs
      have hO : ∀ i, O i ≠ some o := fun i hi => by
        obtain ⟨_, _, x, hx⟩ := h5 i o hi
        rw [look_kill, if_pos rfl] at hx; cases hx
      have hq0 : O q = none := by
        cases hq : O q with
        | none => rfl
        | some o' => have := (h5 _ o' hq).1; omega
      refine ⟨fun i => if i = q then some o else O i, ?_, by simp [h2], h2n, fun i e0 es0 hi => ?_, fun i j o' hi hj => ?_, fun i o' hi => ?_, fun o' x hx => ?_⟩
      · refine h1.less (fun k hk => ?_)
        rcases hk with hk | ⟨i, o', hi, hk⟩
        · exact Or.inl (Or.inl hk)
        · simp only at hi
          by_cases e1 : i = q
          · rw [if_pos e1] at hi; cases hi; exact Or.inl (Or.inr hk)
          · rw [if_neg e1] at hi; exact Or.inr ⟨i, o', hi, hk⟩
      · cases i with
        | zero =>
          simp only [List.getElem?_cons_zero, Option.some.injEq, Arg.mv.injEq] at hi
          obtain ⟨rfl, rfl⟩ := hi
          exact Or.inl ⟨o, by simp, rfl, ho⟩
        | succ i =>
          have := h3 i e0 es0 (by simpa using hi)
          rw [show q + 1 + i = q + (i + 1) by omega] at this
          simp only
          rw [if_neg (by omega)]
          rcases this with ⟨o1, g1, g2, g3⟩ | g
          · refine Or.inl ⟨o1, g1, by simpa using g2, ?_⟩
            rw [look_kill] at g3
            split at g3
            · cases g3
            · exact g3
          · exact Or.inr (by simpa using g)
      · simp only at hi hj
        by_cases e1 : i = q <;> by_cases e2 : j = q
        · omega
        · rw [if_pos e1] at hi; rw [if_neg e2] at hj; cases hi; exact (hO j hj).elim
        · rw [if_neg e1] at hi; rw [if_pos e2] at hj; cases hj; exact (hO i hi).elim
        · rw [if_neg e1] at hi; rw [if_neg e2] at hj; exact h4 i j o' hi hj
      · simp only at hi
        by_cases e1 : i = q
        · rw [if_pos e1] at hi; cases hi
          exact ⟨by omega, by simp only [List.length_cons]; omega, _, ho⟩
        · rw [if_neg e1] at hi
          obtain ⟨g1, g2, x, g3⟩ := h5 i o' hi
          refine ⟨by omega, by simp only [List.length_cons]; omega, x, ?_⟩
          rw [look_kill] at g3
          split at g3
          · cases g3
          · exact g3
      · obtain ⟨g1, g2⟩ := h6 o' x hx
        rw [look_kill] at g1
        split at g1
        · cases g1
        · rename_i hne
          refine ⟨g1, fun i => ?_⟩
          simp only
          by_cases e1 : i = q
          · rw [if_pos e1]; intro e; cases e; exact hne rfl
          · rw [if_neg e1]; exact g2 i
    · exact nilcase _ (Or.inl rfl) hs
    · exact nilcase _ (Or.inr ⟨_, rfl⟩) hs
    · exact hs.elim
  | [], [], st, X, q, h, hs => ⟨fun _ => none, h.less (fun k hk => hk.elim id (fun ⟨_, _, e, _⟩ => by cases e)), rfl, rfl, fun i e es hi => by simp at hi, fun i j o hi => (by cases hi), fun i o hi => (by cases hi), fun o x hx => ⟨hx, fun i e => by cases e⟩⟩
  | [], .ro _ :: _, st, X, q, h, hs => by simp [takeM] at hs
  | [], .mv _ _ :: _, st, X, q, h, hs => by simp [takeM] at hs
  | _ :: _, [], st, X, q, h, hs => by simp [takeM] at hs

theorem argsV_get : ∀ {as : List Arg} (k i : Nat), (argsV k as)[i]? = (as[i]?).map fun x => match x with | .ro t => t | .mv _ es => .ref (k + i) [] es.length
  | [], k, i => by simp [argsV]
  | .ro t :: r, k, i => by
    cases i with
    | zero => simp [argsV]
    | succ i => simp only [argsV, List.getElem?_cons_succ]; rw [argsV_get (k + 1) i, show k + 1 + i = k + (i + 1) by omega]
  | .mv e es :: r, k, i => by
    cases i with
    | zero => simp [argsV]
    | succ i => simp only [argsV, List.getElem?_cons_succ]; rw [argsV_get (k + 1) i, show k + 1 + i = k + (i + 1) by omega]

theorem argsV_length : ∀ {as : List Arg} (k : Nat), (argsV k as).length = as.length
  | [], k => rfl
  | .ro t :: r, k => by simp [argsV, argsV_length]
  | .mv e es :: r, k => by simp [argsV, argsV_length]

theorem argsOb_get : ∀ {as : List Arg} (k o : Nat) (x : Ob), look (argsOb k as) o = some x ↔ ∃ e es, x = .row e es ∧ k ≤ o ∧ as[o - k]? = some (.mv e es)
  | [], k, o, x => by simp [argsOb, look]
  | .ro t :: r, k, o, x => by
    simp only [argsOb]
    rw [argsOb_get (k + 1) o x]
    constructor
    · rintro ⟨e, es, rfl, h1, h2⟩
      exact ⟨e, es, rfl, by omega, by rw [show o - k = (o - (k + 1)) + 1 by omega]; simpa using h2⟩
    · rintro ⟨e, es, rfl, h1, h2⟩
      have : o ≠ k := fun e' => by subst e'; simp at h2
      exact ⟨e, es, rfl, by omega, by rw [show o - k = (o - (k + 1)) + 1 by omega] at h2; simpa using h2⟩
  | .mv e0 es0 :: r, k, o, x => by
    simp only [argsOb, look]
    by_cases he : o = k
    · subst he
      rw [if_pos rfl]
      constructor
      · intro h; cases h; exact ⟨e0, es0, rfl, Nat.le_refl _, by simp⟩
      · rintro ⟨e, es, rfl, _, h⟩; simp at h; obtain ⟨rfl, rfl⟩ := h; rfl
    · rw [if_neg he, argsOb_get (k + 1) o x]
      constructor
      · rintro ⟨e, es, rfl, h1, h2⟩
        exact ⟨e, es, rfl, by omega, by rw [show o - k = (o - (k + 1)) + 1 by omega]; simpa using h2⟩
      · rintro ⟨e, es, rfl, h1, h2⟩
        exact ⟨e, es, rfl, by omega, by rw [show o - k = (o - (k + 1)) + 1 by omega] at h2; simpa using h2⟩

theorem lendAll_get {L : Lend} : ∀ {vs : List V} {as : List Arg}, lendAll L vs as → ∀ (i : Nat) (v t : V), vs[i]? = some v → as[i]? = some (.ro t) → lendsTo L v t
  | [], _, _, i, v, t, hv, _ => by simp at hv
  | _ :: _, [], _, i, v, t, _, ht => by simp at ht
  | x :: vs, .ro y :: as, h, i, v, t, hv, ht => by
    cases i with
    | zero => simp at hv ht; subst hv; subst ht; exact h.1
    | succ i => exact lendAll_get h.2 i v t (by simpa using hv) (by simpa using ht)
  | x :: vs, .mv _ _ :: as, h, i, v, t, hv, ht => by
    cases i with
    | zero => simp at ht
    | succ i => exact lendAll_get (vs := vs) (as := as) h i v t (by simpa using hv) (by simpa using ht)
end
end Go.Proofs.Ytldniggehdpheaa.AW

namespace Go.Proofs.Ytldniggehdpheaa.AW
open Go.RowKit
set_option linter.unusedSimpArgs false
set_option linter.unusedVariables false

section
variable {P : Program} {w w1 : World} {C : Cx} {X : Nat → Prop} {gh gh' : Gh} {st st' st'' : St} {a : Act} {v : V} {u : Value} {ob ob' : List (Nat × Ob)} {S S' : Nat → Prop} {K : St → Prop} {d : D} {F : Nat → Prop}

theorem dVn_keep {n : Nat} (h : VR P w gh ob (dVn n d) u) (hS : gh'.S = gh.S) (hk : ∀ x, look ob n = some x → look ob' n = some x ∧ gh'.hv n = gh.hv n) : VR P w gh' ob' (dVn n d) u := by
  cases d with
  | dead => exact .dead
  | sc v => cases h with | sc h => exact .sc h
  | row sh e es =>
    cases sh with
    | true => cases h with | imm h => exact .imm (by rw [hS]; exact h)
    | false =>
      simp only [dVn] at h ⊢
      cases h with
      | @ref _ _ _ x e' es' A c hx hn hle =>
        obtain ⟨h1, h2⟩ := hk x hx
        suffices hs : NavO P w gh' n x [] (.row false e' es') (.slice A es'.length c) from .ref h1 hs hle
        cases x with
        | box cs => exact hn.elim
        | row e0 es0 =>
          obtain ⟨rfl, rfl, hv⟩ := navO_nil hn
          have hn' : NavO P w gh' n (.row e0 es0) [] (.row false e0 es0) (.slice A es0.length c) := by simp only [NavO, h2, hv]; exact .nil
          exact hn'

theorem numD_get (d : Nat) : ∀ (ds : List D) (k i : Nat), (numD d k ds)[i]? = (ds[i]?).map fun x => (objNo d (k + i), x)
  | [], k, i => by simp [numD]
  | x :: r, k, i => by
    cases i with
    | zero => simp [numD]
    | succ i => simp only [numD, List.getElem?_cons_succ]; rw [numD_get d r (k + 1) i, show k + 1 + i = k + (i + 1) by omega]
theorem vsD_get (d : Nat) : ∀ (ds : List D) (k i : Nat), (vsD d k ds)[i]? = (ds[i]?).map fun x => dVn (objNo d (k + i)) x
  | [], k, i => by simp [vsD]
  | x :: r, k, i => by
    cases i with
    | zero => simp [vsD]
    | succ i => simp only [vsD, List.getElem?_cons_succ]; rw [vsD_get d r (k + 1) i, show k + 1 + i = k + (i + 1) by omega]
theorem vsD_length (d : Nat) : ∀ (ds : List D) (k : Nat), (vsD d k ds).length = ds.length
  | [], k => rfl
  | x :: r, k => by simp [vsD, vsD_length]
theorem layL_append (st : St) : ∀ (A B : List (Nat × D)) (st : St), layL st (A ++ B) = layL (layL st A) B
  | [], B, st => rfl
  | (n, d) :: A, B, st => by simp only [List.cons_append, layL]; exact layL_append st A B _
theorem objNo_inj {d k k' : Nat} (h : objNo d k = objNo d k') : k = k' := by unfold objNo at h; omega

theorem fresh_other {o n : Nat} {x : Ob} (h : o ≠ n) : look (st.fresh n x).ob o = look st.ob o := by
  unfold St.fresh St.put
  rw [look_cons_ne _ _ h]
  rw [look_kill, if_neg (fun e => h e.symm)]

/-- The cells of one result are laid down. -/
theorem layD_sound (dn : Nat) : ∀ (ds : List D) (us : List Value) (G : Nat → Nat → Prop) (k : Nat) {st : St} {X : Nat → Prop} {gh : Gh}, Rep P C X st a w gh → (∀ n, 3000 ≤ n → C.pin n = none) → (∀ j c, ds[j]? = some c → Ow P w gh.S c (us.getD j undef) (G j)) →
    (∀ j c b, ds[j]? = some c → G j b → X b) → (∀ i j c c' b, ds[i]? = some c → ds[j]? = some c' → G i b → G j b → i = j) →
    ∃ gh', Rep P C (fun b => X b ∧ ¬ ∃ j c, ds[j]? = some c ∧ G j b) (layL st (numD dn k ds)) a w gh' ∧ (layL st (numD dn k ds)).nt = st.nt ∧ (∀ j c, ds[j]? = some c → VR P w gh' (layL st (numD dn k ds)).ob (dVn (objNo dn (k + j)) c) (us.getD j undef)) ∧
      (∀ o, (∀ q, k ≤ q → q < k + ds.length → o ≠ objNo dn q) → look (layL st (numD dn k ds)).ob o = look st.ob o ∧ gh'.hv o = gh.hv o) ∧ gh'.S = gh.S
  | [], us, G, k, st, X, gh, h, hp, how, hX, hd => ⟨gh, h.less (fun b hb => hb.1), rfl, fun j c hc => by simp at hc, fun o _ => ⟨rfl, rfl⟩, rfl⟩
  | c :: ds, us, G, k, st, X, gh, h, hp, how, hX, hd => by
    have how0 := how 0 c rfl
    -- the first one
    have first : ∃ gh1, Rep P C (fun b => X b ∧ ¬ G 0 b) (layD st (objNo dn k) c) a w gh1 ∧ (layD st (objNo dn k) c).nt = st.nt ∧ VR P w gh1 (layD st (objNo dn k) c).ob (dVn (objNo dn k) c) (us.getD 0 undef) ∧
        (∀ o, o ≠ objNo dn k → look (layD st (objNo dn k) c).ob o = look st.ob o ∧ gh1.hv o = gh.hv o) ∧ gh1.S = gh.S := by
      generalize us.getD 0 undef = u0 at how0
      generalize hG0 : G 0 = G0 at how0
      cases c with
      | dead => exact ⟨gh, h.less (fun b hb => hb.1), rfl, .dead, fun o _ => ⟨rfl, rfl⟩, rfl⟩
      | sc v => exact ⟨gh, h.less (fun b hb => hb.1), rfl, by cases how0 with | sc h => exact .sc h, fun o _ => ⟨rfl, rfl⟩, rfl⟩
      | row sh e es =>
        cases sh with
        | true => exact ⟨gh, h.less (fun b hb => hb.1), rfl, by cases how0 with | shared h => exact .imm h, fun o _ => ⟨rfl, rfl⟩, rfl⟩
        | false =>
          have hob : ObR P w (gh.upd (objNo dn k) u0 0 0 G0) (objNo dn k) (.row e es) := .row (by simpa [Gh.upd] using how0)
          have hr := h.fresh (d := objNo dn k) (hp _ (by unfold objNo; omega)) hob (fun b hb => hX 0 _ b rfl (hG0 ▸ hb))
          refine ⟨_, hr.less (fun b hb => ⟨hb.1, hb.2⟩), rfl, ?_, fun o ho => ⟨fresh_other ho, by simp [Gh.upd, ho]⟩, rfl⟩
          have hsl : ∃ A cap, u0 = .slice A es.length cap := by
            cases how0 with
            | row xs H own =>
              rcases own.2 with ⟨h1, h2⟩ | ⟨g, cap, cur, h1, _⟩
              · rw [h1, h2]; exact ⟨_, _, rfl⟩
              · exact ⟨_, _, h1⟩
          obtain ⟨A, cap, rfl⟩ := hsl
          exact VR.whole (fresh_look st (objNo dn k) (.row e es)) (by simp [Gh.upd]) (Nat.le_refl _)
    obtain ⟨gh1, hr1, hn1, hv1, hk1, hS1⟩ := first
    obtain ⟨gh2, hr2, hn2, hv2, hk2, hS2⟩ := layD_sound dn ds us.tail (fun j => G (j + 1)) (k + 1) hr1 hp (fun j x hx => by
        have := how (j + 1) x (by simpa using hx)
        rw [hS1]
        have e : us.tail.getD j undef = us.getD (j + 1) undef := by simp [List.getD]
        rw [e]; exact this)
      (fun j x b hx hb => ⟨hX (j + 1) x b (by simpa using hx) hb, fun hb' => by have := hd (j + 1) 0 x c b (by simpa using hx) rfl hb hb'; omega⟩)
      (fun i j x x' b hx hx' hb hb' => by have := hd (i + 1) (j + 1) x x' b (by simpa using hx) (by simpa using hx') hb hb'; omega)
    refine ⟨gh2, hr2.less ?_, hn2.trans hn1, ?_, ?_, hS2.trans hS1⟩
    · rintro b ⟨h1, h2⟩
      refine ⟨⟨h1, fun hb => h2 ⟨0, c, rfl, hb⟩⟩, ?_⟩
      rintro ⟨j, x, hx, hb⟩
      exact h2 ⟨j + 1, x, by simpa using hx, hb⟩
    · intro j x hx
      cases j with
      | zero =>
        simp only [List.getElem?_cons_zero, Option.some.injEq] at hx
        subst hx
        obtain ⟨g1, g2⟩ := hk2 (objNo dn k) (fun q hq _ e => by have := objNo_inj e; omega)
        exact dVn_keep hv1 hS2 (fun x hx => ⟨by rw [show k = k + 0 by omega] at g1; exact g1.trans hx, g2⟩)
      | succ j =>
        have := hv2 j x (by simpa using hx)
        have e : us.tail.getD j undef = us.getD (j + 1) undef := by simp [List.getD]
        rw [e, show k + 1 + j = k + (j + 1) by omega] at this
        exact this
    · intro o ho
      obtain ⟨g1, g2⟩ := hk2 o (fun q hq hq' => ho q (by omega) (by simp only [List.length_cons]; omega))
      obtain ⟨g3, g4⟩ := hk1 o (ho k (Nat.le_refl _) (by simp only [List.length_cons]; omega))
      exact ⟨g1.trans g3, g2.trans g4⟩

/-- What a V of a result keeps. -/
theorem rV_keep {dn k : Nat} {r : RV} (h : VR P w gh ob (rV dn k r) u) (hS : gh'.S = gh.S) (hl : r.1 = false → r.2.length = 1) (hk : ∀ q, k ≤ q → q < k + r.2.length → ∀ x, look ob (objNo dn q) = some x → look ob' (objNo dn q) = some x ∧ gh'.hv (objNo dn q) = gh.hv (objNo dn q)) : VR P w gh' ob' (rV dn k r) u := by
  obtain ⟨b, ds⟩ := r
  cases b with
  | false =>
    simp only [rV] at h ⊢
    exact dVn_keep h hS (hk k (Nat.le_refl _) (by have := hl rfl; simp only at this ⊢; omega))
  | true =>
    simp only [rV] at h ⊢
    cases h with
    | agg hl' h1 hh =>
      refine .agg hl' h1 (fun i v hv => ?_)
      have := hh i v hv
      rw [vsD_get] at hv
      obtain ⟨x, hx, rfl⟩ := Option.map_eq_some_iff.1 hv
      exact dVn_keep this hS (hk (k + i) (by omega) (by have := (List.getElem?_eq_some_iff.1 hx).1; simp only; omega))

/-- All results are laid down. -/
theorem layR_sound (dn : Nat) : ∀ (rs : List RV) (vs : List Value) (G : Nat → Nat → Nat → Prop) (k : Nat) {st : St} {X : Nat → Prop} {gh : Gh}, Rep P C X st a w gh → (∀ n, 3000 ≤ n → C.pin n = none) → Res P w gh.S rs vs G → (∀ b, inHand rs G b → X b) →
    ∃ gh', Rep P C (fun b => X b ∧ ¬ inHand rs G b) (layL st (numR dn k rs)) a w gh' ∧ (layL st (numR dn k rs)).nt = st.nt ∧ ((vsR dn k rs).length = vs.length) ∧ (∀ (i : Nat) (x : V) (u : Value), (vsR dn k rs)[i]? = some x → vs[i]? = some u → VR P w gh' (layL st (numR dn k rs)).ob x u) ∧
      (∀ o, (∀ q, k ≤ q → o ≠ objNo dn q) → look (layL st (numR dn k rs)).ob o = look st.ob o ∧ gh'.hv o = gh.hv o) ∧ gh'.S = gh.S
  | [], vs, G, k, st, X, gh, h, hp, hr, hX => ⟨gh, h.less (fun b hb => hb.1), rfl, by simpa [vsR] using hr.len, fun i x u hx => by simp [vsR] at hx, fun o _ => ⟨rfl, rfl⟩, rfl⟩
  | r :: rs, [], G, k, st, X, gh, h, hp, hr, hX => by have := hr.len; simp at this
  | r :: rs, v :: vs, G, k, st, X, gh, h, hp, hr, hX => by
    have hl1 : r.1 = false → r.2.length = 1 := fun hf => by
      have h1 := hr.one 0 r v rfl rfl hf
      have h2 := hr.sz 0 r v rfl rfl
      rw [cells_one h1] at h2; simpa using h2.symm
    obtain ⟨gh1, hr1, hn1, hv1, hk1, hS1⟩ := layD_sound dn r.2 v.cells.toList (G 0) k h hp (fun j c hc => hr.ow 0 r v j c rfl rfl hc) (fun j c b hc hb => hX b ⟨0, j, r, c, rfl, hc, hb⟩)
      (fun i j c c' b hc hc' hb hb' => (hr.dis 0 i 0 j r r c c' b rfl hc rfl hc' hb hb').2)
    have hres : Res P w gh1.S rs vs (fun i => G (i + 1)) := by
      refine ⟨by have := hr.len; simpa using this, fun i r' v' h1 h2 => hr.one (i + 1) r' v' (by simpa using h1) (by simpa using h2), fun i r' v' h1 h2 => hr.agg (i + 1) r' v' (by simpa using h1) (by simpa using h2),
        fun i r' v' h1 h2 => hr.sz (i + 1) r' v' (by simpa using h1) (by simpa using h2), fun i v' h2 => hr.c1 (i + 1) v' (by simpa using h2), fun i r' v' j c h1 h2 hc => by rw [hS1]; exact hr.ow (i + 1) r' v' j c (by simpa using h1) (by simpa using h2) hc, ?_⟩
      intro i j i' j' r1 r2 c c' b h1 hc h2 hc' hb hb'
      have := hr.dis (i + 1) j (i' + 1) j' r1 r2 c c' b (by simpa using h1) hc (by simpa using h2) hc' hb hb'
      exact ⟨by omega, this.2⟩
    obtain ⟨gh2, hr2, hn2, hl2, hv2, hk2, hS2⟩ := layR_sound dn rs vs (fun i => G (i + 1)) (k + r.2.length) hr1 hp hres (fun b ⟨i, j, r', c, h1, hc, hb⟩ => ⟨hX b ⟨i + 1, j, r', c, by simpa using h1, hc, hb⟩, fun ⟨j0, c0, hc0, hb0⟩ => by
      have := hr.dis (i + 1) j 0 j0 r' r c c0 b (by simpa using h1) hc rfl hc0 hb hb0; omega⟩)
    simp only [numR]
    rw [layL_append st]
    refine ⟨gh2, hr2.less ?_, hn2.trans hn1, by simp [vsR, hl2], ?_, ?_, hS2.trans hS1⟩
    · rintro b ⟨h1, h2⟩
      refine ⟨⟨h1, ?_⟩, ?_⟩
      · rintro ⟨j, c, hc, hb⟩; exact h2 ⟨0, j, r, c, rfl, hc, hb⟩
      · rintro ⟨i, j, r', c, h3, hc, hb⟩; exact h2 ⟨i + 1, j, r', c, by simpa using h3, hc, hb⟩
    · intro i x u hx hu
      cases i with
      | zero =>
        simp only [vsR, List.getElem?_cons_zero, Option.some.injEq] at hx hu
        subst hx; subst hu
        have hfirst : VR P w gh1 (layL st (numD dn k r.2)).ob (rV dn k r) v := by
          obtain ⟨b, ds⟩ := r
          cases b with
          | false =>
            simp only [rV]
            have h1 := hr.one 0 _ v rfl rfl rfl
            have hlen := hl1 rfl
            simp only at hlen hv1
            have h0 := hv1 0 (ds.getD 0 .dead) (by simp [List.getD, List.getElem?_eq_getElem (show 0 < ds.length by omega)])
            rw [cells_one h1] at h0
            simpa using h0
          | true =>
            simp only [rV]
            obtain ⟨cs, rfl⟩ := hr.agg 0 _ _ rfl rfl rfl
            refine .agg (by rw [vsD_length]; exact hr.sz 0 _ _ rfl rfl) (hr.c1 0 _ rfl) (fun i x hx => ?_)
            rw [vsD_get] at hx
            obtain ⟨c, hc, rfl⟩ := Option.map_eq_some_iff.1 hx
            have := hv1 i c hc
            rw [agetD] at this
            exact this
        refine rV_keep hfirst hS2 hl1 (fun q hq hq' x hx => ?_)
        obtain ⟨g1, g2⟩ := hk2 (objNo dn q) (fun q' hq2 e => by have := objNo_inj e; omega)
        exact ⟨g1.trans hx, g2⟩
      | succ i => exact hv2 i x u (by simpa [vsR] using hx) (by simpa using hu)
    · intro o ho
      obtain ⟨g1, g2⟩ := hk2 o (fun q hq => ho q (by omega))
      obtain ⟨g3, g4⟩ := hk1 o (fun q hq _ => ho q hq)
      exact ⟨g1.trans g3, g2.trans g4⟩

theorem aCall_of_sound {f : FuncId} {as : List Arg} {post : List RV → St → Prop} (hs : Sound P f as post) (hpin : ∀ n, 3000 ≤ n → C.pin n = none) {vs : List V} {d : Option Nat} (ht : (takeM st vs as).1) (hl : lendAll ⟨[], fun _ => undef, pvOf C, (takeM st vs as).2.ob, argsOb 0 as⟩ vs as)
    (hns : ∀ rs st', post rs st' → noShR rs = true) (hK : ∀ rs st', post rs st' → ev (b := ⟨K⟩) (after (takeM st vs as).2 d rs)) : aCall P C st f vs d K := by
  refine Or.inl ⟨hs.1, fun a w gh us h hus hv hd => ?_⟩
  obtain ⟨O, h1, hlen, hnt, h3, h4, h5, h6⟩ := take_sound 0 h ht
  generalize hst1 : (takeM st vs as).2 = st1 at *
  let gh0 : Gh := { S := fun k => gh.S k ∨ ∃ o x, look st1.ob o = some x ∧ gh.F o k, hv := fun i => us.getD i undef, bb := fun _ => 0, bo := fun _ => 0, F := fun i k => ∃ o, O i = some o ∧ gh.F o k }
  let C0 : Cx := { w0 := w, s0 := gh0.S, may := fun b _ => ∃ i o, O i = some o ∧ gh.F o b, pin := fun k => if isPin k = true then some (gh0.hv k, gh0.bb k, gh0.bo k) else none, z := fun _ => True }
  have hasl : us.size = as.length := by omega
  have hmv : ∀ (i : Nat) (e : TypeId) (es : List (List D)), as[i]? = some (.mv e es) → (∃ A c, us.getD i undef = .slice A es.length c) ∧ Ow P w gh.S (.row false e es) (us.getD i undef) (gh0.F i) := by
    intro i e es hi
    rcases h3 i e es hi with ⟨o, g1, g2, g3⟩ | ⟨g1, rfl, g2⟩
    · rw [Nat.zero_add] at g1
      have hvi := hv i _ g2
      generalize us.getD i undef = u at hvi
      cases hvi with
      | @ref _ _ _ x e' es' A c hx hn hle =>
        rw [g3] at hx; cases hx
        obtain ⟨rfl, rfl, hv'⟩ := navO_nil hn
        refine ⟨⟨A, c, rfl⟩, ?_⟩
        have := h.obs o _ g3
        cases this with
        | row how =>
          rw [hv'] at how
          refine how.congr (fun k => ⟨fun hk => ⟨o, g1, hk⟩, fun ⟨o', ho', hk⟩ => ?_⟩)
          rw [g1] at ho'; cases ho'; exact hk
    · rw [Nat.zero_add] at g1
      have e0 : us.getD i undef = .slice none 0 0 := by
        rcases g2 with g2 | ⟨t, g2⟩
        · exact (hv i _ g2).sc_inv
        · have := hv i _ g2
          generalize us.getD i undef = u at this
          cases this; rfl
      rw [e0]
      refine ⟨⟨none, 0, rfl⟩, ?_⟩
      have how : Ow P w gh.S (.row false e []) (.slice none 0 0) (fun k => Value.ownBlock (.slice none 0 0) = some k ∨ ∃ i j c, cellAt ([] : List (List D)) i j = some c ∧ No k) :=
        .row [] (fun _ _ => No) (World.ownsRow_nil w 0 e (szT P e)) (by simp) (by simp) (fun i j c hc => by simp [cellAt] at hc) (fun i j i' j' c c' k hc => by simp [cellAt] at hc) (fun i j c k hc => by simp [cellAt] at hc)
      refine how.congr (fun k => ⟨fun hk => ?_, fun ⟨o', ho', hk⟩ => by rw [g1] at ho'; cases ho'⟩)
      rcases hk with hk | ⟨i, j, c, hc, hk⟩
      · simp [Value.ownBlock] at hk
      · simp [cellAt] at hc
  have hFx : ∀ i k, gh0.F i k → ∃ o x, O i = some o ∧ look st.ob o = some x ∧ gh.F o k := fun i k ⟨o, ho, hk⟩ => by
    obtain ⟨_, _, x, hx⟩ := h5 i o ho
    exact ⟨o, x, ho, hx, hk⟩
  have hS0 : ∀ i k, gh0.F i k → ¬ gh0.S k := fun i k hk hS => by
    obtain ⟨o, x, ho, hx, hk⟩ := hFx i k hk
    rcases hS with hS | ⟨o', x', hx', hk'⟩
    · exact h.nS o x k hx hk hS
    · obtain ⟨g1, g2⟩ := h6 o' x' hx'
      have := h.dis o o' x x' k hx g1 hk hk'
      exact g2 i (this ▸ ho)
  have hrep : Rep P C0 No ⟨us.size, zipT 0 (argsV 0 as), argsOb 0 as⟩ ⟨us, []⟩ w gh0 := {
    obs := fun o b hb => by
      obtain ⟨e, es, rfl, _, hi⟩ := (argsOb_get 0 o b).1 hb
      exact .row ((hmv o e es hi).2.mono (fun k hk => Or.inl hk))
    dis := fun o o' b b' k hb hb' hk hk' => by
      obtain ⟨o1, x1, g1, g2, g3⟩ := hFx o k hk
      obtain ⟨o2, x2, g4, g5, g6⟩ := hFx o' k hk'
      have := h.dis o1 o2 x1 x2 k g2 g5 g3 g6
      subst this
      exact h4 o o' o1 g1 g4
    sS := fun k hk => by
      rcases hk with hk | ⟨o, x, hx, hk⟩
      · exact h.sS k hk
      · exact (h.obs o x (h6 o x hx).1).lt k hk
    nS := fun o b k hb hk => hS0 o k hk
    wrR := fun o e es k hb hk => Or.inr (fun f => by obtain ⟨o1, ho1, hk1⟩ := hk; exact ⟨o, o1, ho1, hk1⟩)
    wrB := fun o cs k hb => by obtain ⟨e, es, he, _⟩ := (argsOb_get 0 o _).1 hb; cases he
    wrC := fun o cs j hb => by obtain ⟨e, es, he, _⟩ := (argsOb_get 0 o _).1 hb; cases he
    kept := World.keptBut_refl w _
    pins := fun o x hp hn => by
      simp only [C0] at hp
      split at hp
      · cases hp; rfl
      · cases hp
    tms := fun t => by
      have e1 : St.get ⟨us.size, zipT 0 (argsV 0 as), argsOb 0 as⟩ t = ((argsV 0 as)[t]?).getD .dead := by
        unfold St.get; simp only [look_zipT, Nat.zero_le, if_true, Nat.sub_zero]
      rw [e1, argsV_get]
      cases hi : as[t]? with
      | none => exact .dead
      | some x =>
        cases x with
        | ro v0 =>
          have hlt := (List.getElem?_eq_some_iff.1 hi).1
          have hvt : vs[t]? = some vs[t] := List.getElem?_eq_getElem (by omega)
          exact lend_sound (L := ⟨[], fun _ => undef, pvOf C, st1.ob, argsOb 0 as⟩) (fun k o hk => by simp at hk) (fun o v hv hso => by
            obtain ⟨x, hx, rfl⟩ := Option.map_eq_some_iff.1 hv
            have := h.pins o x hx (fun e => by rw [e] at hso; cases hso)
            rw [← this]) h.obs (fun k hk => Or.inl hk) (fun o x k hx hk => Or.inr ⟨o, x, hx, hk⟩) (fun o x hx => (h6 o x hx).1) (hv t _ hvt) (lendAll_get hl t _ _ hvt hi)
        | mv e es =>
          obtain ⟨⟨A, c, e2⟩, _⟩ := hmv t e es hi
          simp only [Option.map_some, Option.getD_some, Nat.zero_add]
          have hx : look (argsOb 0 as) t = some (.row e es) := (argsOb_get 0 t _).2 ⟨e, es, rfl, Nat.zero_le _, by simpa using hi⟩
          have hh := VR.whole (P := P) (w := w) (gh := gh0) (n := es.length) hx e2 (Nat.le_refl _)
          show VR P w gh0 _ _ (us.getD t undef)
          rw [e2]; exact hh
    nt := Nat.le_refl _
    dfs := rfl
    xl := fun k hk => hk.elim
    xS := fun k hk => hk.elim
    xF := fun o b k hb hk => hk.elim
    xW := fun k hk => hk.elim
    s0S := fun k hk => hk
    sZ := fun k _ => trivial }
  refine (hs.2 gh0.hv (fun o => (gh0.bb o, gh0.bo o)) C0 w gh0 us rfl (fun o ho => by simp only [C0, ho]; rfl) (fun o ho => by simp only [C0, ho]; rfl) (fun _ _ => trivial) (by simp only [argsV_length]; exact hasl) hrep).mono (fun e w' he => ?_)
  obtain ⟨vs', rs, st', a', gh', G, rfl, hpost, hres, hR⟩ := he
  refine ⟨tupV vs', rfl, ?_⟩
  -- the caller's, as it stands behind the call
  have hk := hR.kept
  have hX1 : ∀ k, (∃ i o, O i = some o ∧ gh.F o k) → (No k ∨ ∃ i o, O i = some o ∧ gh.F o k) := fun k hk => Or.inr hk
  have heap : ∀ k, k < w.heap.size → ¬ (∃ i o, O i = some o ∧ gh.F o k) → w'.heap[k]? = w.heap[k]? := fun k hk' hn =>
    keptBut_heap hk hk' (fun f ⟨b, f', e, hm⟩ => by cases e; exact hn hm) (fun ⟨b, f', e, _⟩ => by cases e)
  have hRc := h1.world hk.size (fun o x k hx hk' => heap k ((h1.obs o x hx).lt k hk') (fun hm => h1.xF o x k hx (hX1 k hm) hk')) (fun k hk' => heap k (h1.sS k hk') (fun hm => h1.xS k (hX1 k hm) hk'))
    (World.keptBut_mono (fun p ⟨b, f, e, hm⟩ => ⟨b, f, e, (h1.xW b (hX1 b hm)).imp id (fun hh => hh f)⟩) hk)
  have hw0 := h1.size
  have hin := hRc.inhand (X' := inHand rs G) (fun k hk' => hR.xl k hk') (fun k hk' hS => by
      rcases hR.xW k hk' with hw | hw
      · have := h1.sS k hS; simp only [C0] at hw; omega
      · exact h1.xS k (hX1 k (hw 0)) hS)
    (fun o b k hb hk' hF => by
      rcases hR.xW k hk' with hw | hw
      · have := (h1.obs o b hb).lt k hF; simp only [C0] at hw; omega
      · exact h1.xF o b k hb (hX1 k (hw 0)) hF)
    (fun k hk' => by
      rcases hR.xW k hk' with hw | hw
      · exact Or.inl (Nat.le_trans hw0 hw)
      · exact h1.xW k (hX1 k (hw 0)))
  have hres' : Res P w' gh.S rs vs' G := ⟨hres.len, hres.one, hres.agg, hres.sz, hres.c1, fun i r v j c hr' hv' hc => (hres.ow i r v j c hr' hv' hc).noSh (noShL_get (noShR_get (hns rs st' hpost) i r hr') j c hc), hres.dis⟩
  cases d with
  | none => exact ⟨_, gh, hK rs st' hpost, hin.less (fun k hk => hk.elim)⟩
  | some d =>
    obtain ⟨gh2, hr2, hn2, hl2, hv2, _, _⟩ := layR_sound d rs vs' G 0 hin hpin hres' (fun b hb => hb)
    refine ⟨_, gh2, hK rs st' hpost, ?_⟩
    simp only [after]
    refine (hr2.less (X' := No) (fun k hk => hk.elim)).set (by rw [hn2, hnt]; exact hd d rfl) ?_
    match rs, vs', hl2, hv2 with
    | [], [], _, hv2 => exact .tup rfl (fun i v hi => by simp [vsR] at hi)
    | [r], [v], _, hv2 => exact hv2 0 _ _ rfl rfl
    | r :: r2 :: rs, v :: v2 :: vs, hl2, hv2 =>
      refine .tup (by simp [← hl2]) (fun i x hi => ?_)
      have hil := (List.getElem?_eq_some_iff.1 hi).1
      have hvi : (v :: v2 :: vs)[i]? = some (v :: v2 :: vs)[i] := List.getElem?_eq_getElem (by omega)
      have := hv2 i x _ hi hvi
      simpa [Array.getD_eq_getD_getElem?, hvi] using this
    | [], v :: vs, hl2, _ => simp [vsR] at hl2
    | r :: rs, [], hl2, _ => simp [vsR] at hl2
    | [r], v :: v2 :: vs, hl2, _ => simp [vsR] at hl2
    | r :: r2 :: rs, [v], hl2, _ => simp [vsR] at hl2
end
end Go.Proofs.Ytldniggehdpheaa.AW
