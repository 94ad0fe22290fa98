/- Parts of rows and of strings; structs built from parts. No condition. -/
import Derived.Test.YtaodmogcjpainaaDoorA16
import Derived.Laws.Slices
import Derived.Laws.BytesArg
namespace Go.Proofs.YtaodmogcjpainaaDoor.AW
open Go.RowKit
set_option linter.unusedSimpArgs false
set_option linter.unusedVariables false

def ixV : Option V → Option (Option Int)
  | none => some none
  | some (.sc (.int _ i)) => some (some i)
  | _ => none

def sliceV (P : Program) (st : St) (t : TypeId) (x : V) (lo hi : Option V) : Prop × V := match ixV lo, ixV hi with
  | some l, some h => match x with
    | .sc (.string s) => (P.underlying t = some .string ∧ 0 ≤ l.getD 0 ∧ l.getD 0 ≤ h.getD s.size ∧ h.getD s.size ≤ s.size, .sc (.string (s.extract (l.getD 0).toNat (h.getD s.size).toNat)))
    | .imm e es => (elT P t = some e ∧ 0 ≤ l.getD 0 ∧ l.getD 0 ≤ h.getD es.length ∧ h.getD es.length ≤ es.length, .imm e ((es.take (h.getD es.length).toNat).drop (l.getD 0).toNat))
    | .ref o p n => ((elT P t).isSome = true ∧ l.getD 0 = 0 ∧ 0 ≤ h.getD n ∧ h.getD n ≤ n, .ref o p (h.getD n).toNat)
    | _ => (False, .dead)
  | _, _ => (False, .dead)

def placesT (P : Program) (t : TypeId) : Option (List (Nat × Nat)) := match P.underlying t with
  | some (.struct fields) => fields.toList.mapM (fun f => (P.info? f.type).map fun i => (f.offset, i.size))
  | _ => none

def fillV (pl : List (Nat × Nat)) (cells : List V) : List (Nat × V) → Option (List V)
  | [] => some cells
  | (i, v) :: rest => match pl[i]?, flatV v with
    | some (off, size), some vs => if vs.length = size ∧ off + vs.length ≤ cells.length then fillV pl (setL cells off vs) rest else none
    | _, _ => none

def buildV (P : Program) (t : TypeId) (parts : List (Nat × V)) : Prop × V := match zeroCells P t, placesT P t with
  | some z, some pl => (z.all (·.oneCell') = true ∧ (fillV pl (z.map .sc) parts).isSome = true, .agg ((fillV pl (z.map .sc) parts).getD []))
  | _, _ => (False, .dead)

def okO (st : St) : Option Operand → Prop
  | none => True
  | some y => (st.ev y).ok
theorem okO_get {st : St} {z : Option Operand} (h : okO st z) : ∀ y, z = some y → (st.ev y).ok := fun y hy => by subst hy; exact h

/-- The operations that only reckon and read, all of them. -/
def aPure2 (P : Program) (o : Oper) (st : St) : Option (Prop × V) := match aPure P o st with
  | some r => some r
  | none => match o.op with
    | .slice t x lo hi mx => match mx with
      | none => some ((st.ev x).ok ∧ okO st lo ∧ okO st hi ∧ (sliceV P st t (st.ev x).str (lo.map fun y => (st.ev y).str) (hi.map fun y => (st.ev y).str)).1,
          (sliceV P st t (st.ev x).str (lo.map fun y => (st.ev y).str) (hi.map fun y => (st.ev y).str)).2)
      | some _ => none
    | .build t parts => some (okP st parts.toList ∧ (buildV P t (parts.toList.map fun p => (p.1, (st.ev p.2).str))).1, (buildV P t (parts.toList.map fun p => (p.1, (st.ev p.2).str))).2)
    | _ => none

/-- The bytes of a row of bytes. -/
def bytesD : List (List D) → Option (List Int)
  | [] => some []
  | [.sc (.int .u8 z)] :: r => (bytesD r).map (z :: ·)
  | _ => none

/-- The text of a row of bytes. -/
def aConv (P : Program) (st : St) (s t : TypeId) (v : V) (d : Nat) (K : St → Prop) : Prop := match v with
  | .ref o p n => match look st.ob o with
    | some x => match subO x p with
      | some (.row false e es) => (elT P s = some e ∧ P.underlying e = some (.int .u8) ∧ P.underlying t = some .string ∧ szT P e = 1 ∧ (bytesD es).isSome = true ∧ n = es.length ∧ 0 < n) ∧ ev (b := ⟨K⟩) (st.set d (.sc (.string (strOfNums ((bytesD es).getD [])))))
      | _ => False
    | none => False
  | _ => False

section
variable {P : Program} {w w1 : World} {C : Cx} {X : Nat → Prop} {gh : Gh} {st : St} {a : Act} {v : V} {u : Value} {ob : List (Nat × Ob)} {S : Nat → Prop}

theorem fill_sound {pl : List (Nat × Nat)} : ∀ {parts : List (Nat × V)} {vals : List (Nat × Value)} {cells : Array Value} {vs r : List V}, parts.length = vals.length → (∀ (i : Nat) (p : Nat × V) (q : Nat × Value), parts[i]? = some p → vals[i]? = some q → p.1 = q.1 ∧ VR P w gh ob p.2 q.2) →
    cells.size = vs.length → (∀ x ∈ cells, x.oneCell' = true) → (∀ (i : Nat) (x : V), vs[i]? = some x → VR P w gh ob x (cells.getD i undef)) → fillV pl vs parts = some r →
    ∃ out, Instr.fill (pl.toArray[·]?) cells vals = some out ∧ out.size = r.length ∧ (∀ x ∈ out, x.oneCell' = true) ∧ ∀ (i : Nat) (x : V), r[i]? = some x → VR P w gh ob x (out.getD i undef)
  | [], vals, cells, vs, r, hl, _, hs, h1, hv, hf => by
    have : vals = [] := List.eq_nil_of_length_eq_zero (by simpa using hl.symm)
    subst this
    simp only [fillV, Option.some.injEq] at hf
    subst hf
    exact ⟨cells, rfl, hs, h1, hv⟩
  | (i, v) :: parts, [], cells, vs, r, hl, _, _, _, _, _ => by simp at hl
  | (i, v) :: parts, (i', y) :: vals, cells, vs, r, hl, hp, hs, h1, hv, hf => by
    obtain ⟨e1, hvy⟩ := hp 0 _ _ rfl rfl
    simp only at e1 hvy
    subst e1
    simp only [fillV] at hf
    split at hf
    case h_2 => cases hf
    rename_i off size fs hpl hfl
    split at hf
    case isFalse => cases hf
    rename_i hc
    obtain ⟨g1, g2, g3⟩ := flat_sound hvy hfl
    obtain ⟨f1, f2⟩ := Great.foldl_set off y.cells.toList 0 cells
    have hset : ∀ k : Nat, ((y.cells.toList.zipIdx 0).foldl (fun (cs : Array Value) (x : Value × Nat) => cs.setIfInBounds (off + x.2) x.1) cells)[k]? = (setL cells.toList off y.cells.toList)[k]? := by
      intro k
      rw [f2, setL_get]
      simp only [Nat.add_zero, Array.length_toList, Array.getElem?_toList]
    have hrec := fill_sound (parts := parts) (vals := vals) (cells := (y.cells.toList.zipIdx 0).foldl (fun (cs : Array Value) (x : Value × Nat) => cs.setIfInBounds (off + x.2) x.1) cells) (vs := setL vs off fs) (r := r) (Nat.succ.inj hl)
      (fun k p q hk hq => hp (k + 1) p q (by simpa using hk) (by simpa using hq)) (by rw [f1, setL_length, hs]) (fun x hx => by
        obtain ⟨k, hk, rfl⟩ := Array.getElem_of_mem hx
        have := hset k
        rw [Array.getElem?_eq_getElem hk, setL_get] at this
        split at this
        · exact g2 _ (by simpa using List.mem_of_getElem? this.symm)
        · exact h1 _ (by simpa using List.mem_of_getElem? this.symm))
      (fun k x hx => by
        have e2 : ((y.cells.toList.zipIdx 0).foldl (fun (cs : Array Value) (x : Value × Nat) => cs.setIfInBounds (off + x.2) x.1) cells).getD k undef = ((setL cells.toList off y.cells.toList)[k]?).getD undef := by
          rw [← hset]; simp only [Array.getD_eq_getD_getElem?]
        rw [e2, setL_get]
        rw [setL_get] at hx
        simp only [Array.length_toList]
        by_cases hin : off ≤ k ∧ k < off + fs.length ∧ k < vs.length
        · rw [if_pos hin] at hx
          rw [if_pos (by omega), ← toArr_getD]
          exact g3 _ x hx
        · rw [if_neg hin] at hx
          rw [if_neg (by omega)]
          have := hv k x hx
          rw [Array.getD_eq_getD_getElem?] at this
          simpa using this) hf
    obtain ⟨out, o1, o2⟩ := hrec
    refine ⟨out, ?_, o2⟩
    simp only [Instr.fill]
    have e3 : pl.toArray[i]? = some (off, size) := by simpa using hpl
    rw [e3]
    simp only
    rw [if_neg (by simp only [ne_eq, Bool.or_eq_true, decide_eq_true_eq, not_or]; omega)]
    have e4 : y.cells.toList.zipIdx = y.cells.zipIdx.toList := by simp
    rw [← o1, e4, Array.foldl_toList]

theorem build_sound {t : TypeId} {parts : List (Nat × V)} {vals : Array (Nat × Value)} (hl : parts.length = vals.toList.length) (hp : ∀ (i : Nat) (p : Nat × V) (q : Nat × Value), parts[i]? = some p → vals.toList[i]? = some q → p.1 = q.1 ∧ VR P w gh ob p.2 q.2) (hs : (buildV P t parts).1) :
    ∃ y, (∀ w : World, (Instr.build t vals).run P w = .ok y w) ∧ VR P w gh ob (buildV P t parts).2 y := by
  unfold buildV at hs ⊢
  cases hz : zeroCells P t with
  | none => simp [hz] at hs
  | some z =>
    cases hpl : placesT P t with
    | none => simp [hz, hpl] at hs
    | some pl =>
      simp only [hz, hpl] at hs ⊢
      obtain ⟨h1, h2⟩ := hs
      obtain ⟨r, hr⟩ := Option.isSome_iff_exists.1 h2
      obtain ⟨i, zz, hi, hzz, rfl⟩ := zero_info hz
      obtain ⟨out, o1, o2, o3, o4⟩ := fill_sound (cells := zz.cells) hl hp (by simp) (fun x hx => List.all_eq_true.1 h1 x (by simpa using hx)) (fun k x hx => by
        simp only [List.getElem?_map, Option.map_eq_some_iff, Array.getElem?_toList] at hx
        obtain ⟨y, hy, rfl⟩ := hx
        have e : zz.cells.getD k undef = y := by rw [Array.getD_eq_getD_getElem?, hy]; rfl
        rw [e]
        exact .sc (List.all_eq_true.1 h1 y (by simpa using Array.mem_of_getElem? hy))) hr
      refine ⟨.agg out, fun w => run_build w t vals out ?_, ?_⟩
      · unfold placesT at hpl
        split at hpl
        · rename_i fields hu
          simp only [Program.built, hi, hu, hzz, hpl]
          exact o1
        · cases hpl
      · rw [hr]; exact .agg o2 o3 o4

theorem ixV_inv {x : Option V} {u : Option Value} {l : Option Int} (hx : ∀ y, x = some y → ∃ z, u = some z ∧ VR P w gh ob y z) (hn : x = none → u = none) (h : ixV x = some l) : (l = none ∧ u = none) ∨ ∃ k i, l = some i ∧ u = some (.int k i) := by
  cases x with
  | none => simp only [ixV, Option.some.injEq] at h; exact Or.inl ⟨h.symm, hn rfl⟩
  | some y =>
    obtain ⟨z, rfl, hz⟩ := hx y rfl
    unfold ixV at h
    split at h
    · rename_i heq; cases heq
    · rename_i k i heq
      cases heq
      simp only [Option.some.injEq] at h
      have := hz.sc_inv
      exact Or.inr ⟨k, i, h.symm, by rw [this]⟩
    · cases h

theorem bounds_sound {b : Bool} {n c : Nat} {l h : Option Int} {lo hi : Option Value} (hlo : (l = none ∧ lo = none) ∨ ∃ k i, l = some i ∧ lo = some (.int k i)) (hhi : (h = none ∧ hi = none) ∨ ∃ k i, h = some i ∧ hi = some (.int k i))
    (h0 : 0 ≤ l.getD 0) (h1 : l.getD 0 ≤ h.getD n) (h2 : h.getD n ≤ n) (hnc : n ≤ c) : (Instr.sliceBounds b n c lo hi none).run P w = .ok ((l.getD 0).toNat, (h.getD n).toNat, c) w := by
  have e0 : ∀ i : Int, 0 ≤ i → ((i.toNat : Nat) : Int) = i := fun i hi => Int.toNat_of_nonneg hi
  rcases hlo with ⟨rfl, rfl⟩ | ⟨k, i, rfl, rfl⟩ <;> rcases hhi with ⟨rfl, rfl⟩ | ⟨k', i', rfl, rfl⟩ <;> simp only [Option.getD_none, Option.getD_some] at *
  · simp [Instr.sliceBounds]
  · have := run_sliceBound (P := P) w k' i' c (if b then .sliceAcap else .sliceAlen) (by omega) (by omega)
    simp [Instr.sliceBounds, this, Sem.run_bind]
  · have := run_sliceBound (P := P) w k i n .sliceB (by omega) (by omega)
    simp [Instr.sliceBounds, this, Sem.run_bind]
  · have h3 := run_sliceBound (P := P) w k' i' c (if b then .sliceAcap else .sliceAlen) (by omega) (by omega)
    have h4 := run_sliceBound (P := P) w k i i'.toNat .sliceB (by omega) (by rw [e0 i' (by omega)]; omega)
    simp [Instr.sliceBounds, h3, h4, Sem.run_bind]

theorem Ro.part {e : TypeId} {es : List (List D)} {A : Option Addr} {n c l h : Nat} (hr : Ro P w S (.row true e es) (.slice A n c)) (h1 : l ≤ h) (h2 : h ≤ es.length) :
    Ro P w S (.row true e ((es.take h).drop l)) (.slice (if c = l then A else A.map (·.add (l * szT P e))) (h - l) (c - l)) := by
  have hlen : ((es.take h).drop l).length = h - l := by simp; omega
  rw [← hlen]
  cases hr with
  | row U hl hm hsz hA hU =>
    have hget : ∀ i j d, cellAt ((es.take h).drop l) i j = some d → cellAt es (l + i) j = some d := by
      intro i j d hd
      have hi := cellAt_lt hd
      unfold cellAt at hd ⊢
      rw [List.getElem?_drop, List.getElem?_take_of_lt (by omega)] at hd
      exact hd
    refine .row (fun i j => U (l + i) j) (by omega) (by omega) (fun x hx => hsz x (List.mem_of_mem_take (List.mem_of_mem_drop hx))) (fun h0 => ?_) (fun i j d hd => hU _ _ d (hget i j d hd))
    obtain ⟨ad, rfl, hsp, hS, hc⟩ := hA (by omega)
    rw [if_neg (by omega)]
    obtain ⟨b, f, s⟩ := ad
    simp only at hsp; subst hsp
    refine ⟨_, rfl, ?_, ?_, fun i j d hd => ?_⟩
    · simp only [Addr.add]; split <;> rfl
    · simp only [Addr.add]; split <;> exact hS
    · have := hc _ _ d (hget i j d hd)
      have e1 : f + ((l + i) * szT P e + j) = (Addr.add ⟨b, f, none⟩ (l * szT P e)).off + (i * szT P e + j) := by
        rw [Nat.add_mul]
        simp only [Addr.add]; split <;> simp only <;> omega
      have e2 : (Addr.add ⟨b, f, none⟩ (l * szT P e)).block = b := by simp only [Addr.add]; split <;> rfl
      rw [e2, ← e1]; exact this

theorem slice_sound {t : TypeId} {x : V} {p : Value} {lo hi : Option V} {lo' hi' : Option Value} (hx : VR P w gh ob x p) (hob : ∀ o x, look ob o = some x → ObR P w gh o x)
    (hlo : ∀ y, lo = some y → ∃ z, lo' = some z ∧ VR P w gh ob y z) (hlo0 : lo = none → lo' = none) (hhi : ∀ y, hi = some y → ∃ z, hi' = some z ∧ VR P w gh ob y z) (hhi0 : hi = none → hi' = none)
    {st : St} (hz : ∀ e, elT P t = some e → 0 < szT P e) (hs : (sliceV P st t x lo hi).1) :
    ∃ y, (∀ w : World, (Instr.sliceAt t p lo' hi' none).run P w = .ok y w) ∧ VR P w gh ob (sliceV P st t x lo hi).2 y := by
  unfold sliceV at hs ⊢
  split at hs
  case h_2 => exact hs.elim
  rename_i l h hl hh
  have bl := ixV_inv hlo hlo0 hl
  have bh := ixV_inv hhi hhi0 hh
  have hsize : ∀ e, elT P t = some e → ∀ w : World, (sizeOf e).run P w = .ok (szT P e) w := fun e he w => run_sizeOf (hz e he) w
  cases hx with
  | sc hp =>
    split at hs
    · rename_i s heq
      cases heq
      obtain ⟨hu, h0, h1, h2⟩ := hs
      have hb := fun w : World => bounds_sound (P := P) (w := w) (b := false) bl bh h0 h1 h2 (Nat.le_refl _)
      exact ⟨_, fun w => by simp [Instr.sliceAt, Instr.slice, run_underlying hu, hb, Sem.run_bind], .sc rfl⟩
    all_goals simp_all
  | @imm e es u hr =>
    obtain ⟨he, h0, h1, h2⟩ := hs
    have hu := elT_some' he
    cases hr with
    | @row _ _ _ A c U hl' hm hsz hA hU =>
      have hb := fun w : World => bounds_sound (P := P) (w := w) (b := true) bl bh h0 h1 h2 hl'
      refine ⟨_, fun w => ?_, .imm (Ro.part (.row U hl' hm hsz hA hU) (l := (l.getD 0).toNat) (h := (h.getD es.length).toNat) (by omega) (by omega))⟩
      simp [Instr.sliceAt, Instr.slice, run_underlying hu, hb, hsize e he, Sem.run_bind]
  | @ref o n p x' e es A c hxo hn hle =>
    obtain ⟨he, h0, h1, h2⟩ := hs
    obtain ⟨e', he⟩ := Option.isSome_iff_exists.1 he
    have hu := elT_some' he
    have hnc : n ≤ c := by
      obtain ⟨v', F', n1, n2, _⟩ := (hob o x' hxo).up hn.sub
      obtain ⟨_, e2⟩ := hn.fn n1
      subst e2
      cases n2 with
      | row xs H own =>
        rcases own.2 with ⟨e3, h3⟩ | ⟨g, cap, cur, e3, _, _, hcap, _⟩
        · injection e3 with a1 a2 a3; omega
        · injection e3 with a1 a2 a3; omega
    have hb := fun w : World => bounds_sound (P := P) (w := w) (b := true) bl bh (by omega) (by omega) h2 hnc
    refine ⟨.slice A (h.getD n).toNat c, fun w => ?_, .ref hxo hn (by omega)⟩
    have e5 : (l.getD 0).toNat = 0 := by omega
    have e6 : (Option.map (fun x => x.add 0) A) = A := by cases A <;> simp [Addr.add]
    simp [Instr.sliceAt, Instr.slice, run_underlying hu, hb, hsize e' he, Sem.run_bind, e5, e6]
  | _ => exact hs.elim

theorem bytesD_get : ∀ {es : List (List D)} {zs : List Int}, bytesD es = some zs → zs.length = es.length ∧ ∀ i, i < es.length → cellAt es i 0 = some (.sc (.int .u8 (zs.getD i 0)))
  | [], zs, h => by simp only [bytesD, Option.some.injEq] at h; subst h; exact ⟨rfl, fun i hi => by simp at hi⟩
  | l :: r, zs, h => by
    unfold bytesD at h
    split at h
    · rename_i heq; cases heq
    · rename_i z r' heq
      cases heq
      obtain ⟨zs', h', rfl⟩ := Option.map_eq_some_iff.1 h
      obtain ⟨g1, g2⟩ := bytesD_get h'
      refine ⟨by simp [g1], fun i hi => ?_⟩
      cases i with
      | zero => simp [cellAt]
      | succ i => have := g2 i (by simpa using hi); simpa [cellAt] using this
    · cases h

theorem conv_bytes_sound (h : Rep P C No st a w gh) {o : Oper} {s t : TypeId} {x : Operand} {d : Nat} {K : St → Prop} (ho : o.op = .convert s t x) (hd : o.dst = some d) (hlt : d < st.nt) (hok : (st.ev x).ok) (hk : aConv P st s t (st.ev x).str d K) : Comes1 P C o a w K := by
  have hv := h.use x hok
  unfold aConv at hk
  split at hk
  case h_2 => exact hk.elim
  rename_i k p n hx
  rw [hx] at hv
  generalize hu : a.eval x = u at hv
  cases hv with
  | @ref _ _ _ x' e' es' A c hxo hn hle =>
    have hs := hn.sub
    simp only [hxo, hs] at hk
    obtain ⟨⟨h1, h2, h3, h4, h5, rfl, h7⟩, hk⟩ := hk
    obtain ⟨v', F', hn', how, _⟩ := (h.obs k _ hxo).focus hs
    obtain ⟨_, rfl⟩ := hn.fn hn'
    obtain ⟨zs, hzs⟩ := Option.isSome_iff_exists.1 h5
    obtain ⟨g1, g2⟩ := bytesD_get hzs
    cases how with
    | row xs G own hsz h1' hx' dis nb =>
      obtain ⟨g, cap, he, hcc, hm, hcell, _⟩ := ownsRow_cell own h7
      cases he
      have hc := run_convert_bytes_arg (P := P) w s e' (elT_some' h1) h2 g 0 es'.length c zs g1 (fun i hi => by
        have hj : i < es'.length * szT P e' := by rw [h4]; omega
        have e1 := (hcell i hj).trans (getD_of_lt (by rw [own.1]; exact hj))
        have e2 := hx' i 0 _ (g2 i hi)
        rw [h4] at e2
        simp only [Nat.mul_one, Nat.add_zero] at e2
        simp only [Nat.zero_add] at e1 ⊢
        rw [e1]
        generalize xs.getD i undef = y at e2 ⊢
        generalize G i 0 = F0 at e2
        cases e2
        rfl) t h3
      have hrun : (execOp a.eval o).run P w = .ok (.value (.string (strOfNums zs))) w := by
        simp only [execOp, ho, Sem.run_bind, hu]
        rw [hc]; rfl
      rw [hzs] at hk
      refine ⟨_, _, hrun, Or.inl ⟨_, rfl, _, gh, hk, ?_⟩⟩
      rw [hd]
      exact h.set hlt (.sc rfl)

theorem pure_all2 (hz : Sized P) (h : Rep P C X st a w gh) {o : Oper} {s : Prop} {v : V} (hp : aPure2 P o st = some (s, v)) (hs : s) (hnl : ∀ t x, o.op ≠ .load t x) :
    ∃ y, (∀ w : World, (execOp a.eval o).run P w = .ok (.value y) w) ∧ VR P w gh st.ob v y := by
  unfold aPure2 at hp
  split at hp
  · rename_i r hr
    cases hp
    exact pure_all hz h hr hs hnl
  · split at hp
    · rename_i t x lo hi mx hop
      split at hp
      · cases hp
        obtain ⟨h1, h2, h3, h4⟩ := hs
        replace h2 := okO_get h2
        replace h3 := okO_get h3
        have opt : ∀ (z : Option Operand), (∀ y, z = some y → (st.ev y).ok) → (∀ y, (z.map fun y => (st.ev y).str) = some y → ∃ u, z.map a.eval = some u ∧ VR P w gh st.ob y u) ∧ ((z.map fun y => (st.ev y).str) = none → z.map a.eval = none) := by
          intro z hz'
          cases z with
          | none => exact ⟨fun y hy => by simp at hy, fun _ => rfl⟩
          | some z => exact ⟨fun y hy => by simp at hy; subst hy; exact ⟨_, rfl, h.use z (hz' z rfl)⟩, fun hy => by simp at hy⟩
        obtain ⟨y, hr, hv⟩ := slice_sound (h.use x h1) h.obs (opt lo h2).1 (opt lo h2).2 (opt hi h3).1 (opt hi h3).2 (hz t) h4
        exact ⟨y, fun w => by simp [execOp, hop, Sem.run_bind, hr], hv⟩
      · cases hp
    · rename_i t parts hop
      cases hp
      obtain ⟨h1, h2⟩ := hs
      obtain ⟨y, hr, hv⟩ := build_sound (P := P) (w := w) (gh := gh) (ob := st.ob) (vals := parts.map fun (i, x) => (i, a.eval x)) (by simp) (fun i p q hp hq => by
        simp only [List.getElem?_map, Option.map_eq_some_iff, Array.toList_map] at hp hq
        obtain ⟨z, hz1, rfl⟩ := hp
        obtain ⟨z', hz2, rfl⟩ := hq
        rw [hz1] at hz2; cases hz2
        exact ⟨rfl, h.use z.2 (okP_mem h1 z (List.mem_of_getElem? hz1))⟩) h2
      exact ⟨y, fun w => by simp only [execOp, hop, Sem.run_bind]; rw [hr]; rfl, hv⟩
    · cases hp

theorem pure_sound2 (hz : Sized P) (h : Rep P C X st a w gh) {o : Oper} {s : Prop} {v : V} (hp : aPure2 P o st = some (s, v)) (hs : s) :
    ∃ y, (execOp a.eval o).run P w = .ok (.value y) w ∧ VR P w gh st.ob v y := by
  unfold aPure2 at hp
  split at hp
  · rename_i r hr
    cases hp
    exact pure_sound hz h hr hs
  · split at hp
    · rename_i t x lo hi mx hop
      split at hp
      · cases hp
        obtain ⟨h1, h2, h3, h4⟩ := hs
        replace h2 := okO_get h2
        replace h3 := okO_get h3
        have opt : ∀ (z : Option Operand), (∀ y, z = some y → (st.ev y).ok) → (∀ y, (z.map fun y => (st.ev y).str) = some y → ∃ u, z.map a.eval = some u ∧ VR P w gh st.ob y u) ∧ ((z.map fun y => (st.ev y).str) = none → z.map a.eval = none) := by
          intro z hz'
          cases z with
          | none => exact ⟨fun y hy => by simp at hy, fun _ => rfl⟩
          | some z => exact ⟨fun y hy => by simp at hy; subst hy; exact ⟨_, rfl, h.use z (hz' z rfl)⟩, fun hy => by simp at hy⟩
        obtain ⟨y, hr, hv⟩ := slice_sound (h.use x h1) h.obs (opt lo h2).1 (opt lo h2).2 (opt hi h3).1 (opt hi h3).2 (hz t) h4
        exact ⟨y, by simp [execOp, hop, Sem.run_bind, hr], hv⟩
      · cases hp
    · rename_i t parts hop
      cases hp
      obtain ⟨h1, h2⟩ := hs
      obtain ⟨y, hr, hv⟩ := build_sound (P := P) (w := w) (gh := gh) (ob := st.ob) (vals := parts.map fun (i, x) => (i, a.eval x)) (by simp) (fun i p q hp hq => by
        simp only [List.getElem?_map, Option.map_eq_some_iff, Array.toList_map] at hp hq
        obtain ⟨z, hz1, rfl⟩ := hp
        obtain ⟨z', hz2, rfl⟩ := hq
        rw [hz1] at hz2; cases hz2
        exact ⟨rfl, h.use z.2 (okP_mem h1 z (List.mem_of_getElem? hz1))⟩) h2
      exact ⟨y, by simp only [execOp, hop, Sem.run_bind]; rw [hr w]; rfl, hv⟩
    · cases hp
end
end Go.Proofs.YtaodmogcjpainaaDoor.AW
