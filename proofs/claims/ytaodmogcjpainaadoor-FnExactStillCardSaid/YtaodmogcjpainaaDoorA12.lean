/- The operations that make, lay down and write: what they come to. No condition. -/
import Derived.Test.YtaodmogcjpainaaDoorA11
import Derived.Laws.MakeOwn
namespace Go.Proofs.YtaodmogcjpainaaDoor.AW
open Go.RowKit
set_option linter.unusedSimpArgs false
set_option linter.unusedVariables false

def zeroCells (P : Program) (t : TypeId) : Option (List Value) := ((P.info? t).bind (·.zero)).map (·.cells.toList)
def bytesT (P : Program) (e : TypeId) : Nat := ((P.info? e).map (·.bytes)).getD 0

/-- Numbers of rows that nobody has named yet. -/
def anon (d : Nat) : Nat := 3000 + d
def isAnon (o : Nat) : Bool := decide (3000 ≤ o)

def setDst (st : St) (d : Option Nat) (v : V) : St := match d with
  | none => st
  | some d => st.set d v

def okP (st : St) : List (Nat × Operand) → Prop
  | [] => True
  | p :: r => (st.ev p.2).ok ∧ okP st r
def okX (st : St) : List Operand → Prop
  | [] => True
  | p :: r => (st.ev p).ok ∧ okX st r
def lensAre (n : Nat) : List (List V) → Prop
  | [] => True
  | l :: r => l.length = n ∧ lensAre n r
theorem okP_mem {st : St} : ∀ {l : List (Nat × Operand)}, okP st l → ∀ p ∈ l, (st.ev p.2).ok
  | [], _, p, h => by simp at h
  | x :: r, h, p, hp => (List.mem_cons.1 hp).elim (fun e => e ▸ h.1) (okP_mem h.2 p)
theorem okX_mem {st : St} : ∀ {l : List Operand}, okX st l → ∀ p ∈ l, (st.ev p).ok
  | [], _, p, h => by simp at h
  | x :: r, h, p, hp => (List.mem_cons.1 hp).elim (fun e => e ▸ h.1) (okX_mem h.2 p)
theorem lensAre_mem {n : Nat} : ∀ {l : List (List V)}, lensAre n l → ∀ p ∈ l, p.length = n
  | [], _, p, h => by simp at h
  | x :: r, h, p, hp => (List.mem_cons.1 hp).elim (fun e => e ▸ h.1) (lensAre_mem h.2 p)

/-- What is not to be looked into before its time. -/
class KB where
  k : St → Prop
class PB where
  p : Prop
  q : Prop
/-- A state is reckoned before one goes on with it. -/
def ev (s : St) [b : KB] : Prop := b.k s
theorem ev_eq (K : St → Prop) (s : St) : @ev s ⟨K⟩ = K s := rfl

def aAssign (P : Program) (C : Cx) (st : St) (ty : TypeId) (d : Nat) (v : V) (K : St → Prop) : Prop := match v with
  | .sc (.slice none 0 0) => match elT P ty with
    | some e => C.pin d = none ∧ ev (b := ⟨K⟩) ((st.fresh d (.row e [])).set d (.ref d [] 0))
    | none => False
  | .ref o [] n => if isAnon o then (match look st.ob o with
      | some (.row e es) => C.pin d = none ∧ ev (b := ⟨K⟩) (((st.kill o).fresh d (.row e es)).set d (.ref d [] n))
      | _ => False) else ev (b := ⟨K⟩) (st.set d v)
  | v => ev (b := ⟨K⟩) (st.set d v)

def aAlloc (P : Program) (C : Cx) (st : St) (t : TypeId) (d : Nat) (K : St → Prop) : Prop := match zeroCells P t with
  | some cs => (cs.all (·.oneCell') = true) ∧ C.pin d = none ∧ ev (b := ⟨K⟩) ((st.fresh d (.box (cs.map .sc))).set d (.bp d 0))
  | none => False

def aBox (C : Cx) (st : St) (d : Nat) (v : V) (K : St → Prop) : Prop := match flatV v with
  | some vs => (toDs st vs).1 ∧ C.pin d = none ∧ ev (b := ⟨K⟩) (((toDs st vs).2.1.fresh d (.box (toDs st vs).2.2)).set d (.bp d 0))
  | none => False

def flats : List V → Option (List (List V))
  | [] => some []
  | v :: r => (flatV v).bind fun x => (flats r).map (x :: ·)

def aBuildSlice (P : Program) (C : Cx) (st : St) (t : TypeId) (len d : Nat) (ix : List Nat) (vs : List V) (K : St → Prop) : Prop := match elT P t, flats vs with
  | some e, some fs => ix = List.range len ∧ lensAre (szT P e) fs ∧ (0 < len → (zeroCells P e).isSome = true) ∧ len * szT P e ≤ 16777216 ∧ (toDss st fs).1 ∧ C.pin (anon d) = none ∧
      ev (b := ⟨K⟩) (((toDss st fs).2.1.fresh (anon d) (.row e (toDss st fs).2.2)).set d (.ref (anon d) [] len))
  | _, _ => False

def aMake (P : Program) (C : Cx) (st : St) (t : TypeId) (d : Nat) (l c : V) (K : St → Prop) : Prop := match l, c with
  | .sc (.int _ n), .sc (.int _ m) => match elT P t with
    | some e => match zeroCells P e with
      | some z => n = m ∧ 0 ≤ n ∧ bytesT P e * n ≤ 281474976710656 ∧ n ≤ 140737488355328 ∧ z.all (·.oneCell') = true ∧ z.length = szT P e ∧ C.pin (anon d) = none ∧
        ev (b := ⟨K⟩) ((st.fresh (anon d) (.row e (List.replicate n.toNat (z.map .sc)))).set d (.ref (anon d) [] n.toNat))
      | none => False
    | none => False
  | _, _ => False

section
variable {P : Program} {w w1 : World} {C : Cx} {X : Nat → Prop} {gh : Gh} {st : St} {a : Act} {v : V} {u : Value} {ob : List (Nat × Ob)}

/-- What an operation comes to. -/
def Comes1 (P : Program) (C : Cx) (o : Oper) (a : Act) (w : World) (K : St → Prop) : Prop :=
  ∃ nx w', (execOp a.eval o).run P w = .ok nx w' ∧ ((∃ y, nx = .value y ∧ ∃ st' gh', K st' ∧ Rep P C No st' (a.put o.dst y) w' gh') ∨ (nx = .skip ∧ ∃ st' gh', K st' ∧ Rep P C No st' (a.put o.dst undef) w' gh'))

theorem getD_eq {vs : List Value} {i : Nat} {d : Value} (h : i < vs.length) : vs.getD i d = vs[i] := by simp [List.getD, List.getElem?_eq_getElem h]

theorem zero_info {t : TypeId} {cs : List Value} (h : zeroCells P t = some cs) : ∃ i z, P.info? t = some i ∧ i.zero = some z ∧ z.cells.toList = cs := by
  unfold zeroCells at h
  simp only [Option.map_eq_some_iff, Option.bind_eq_some_iff] at h
  obtain ⟨z, ⟨i, hi, hz⟩, rfl⟩ := h
  exact ⟨i, z, hi, hz, rfl⟩

theorem alloc_sound (h : Rep P C No st a w gh) {o : Oper} {t : TypeId} {d : Nat} {K : St → Prop} (ho : o.op = .alloc t) (hd : o.dst = some d) (hlt : d < st.nt) (hk : aAlloc P C st t d K) : Comes1 P C o a w K := by
  unfold aAlloc at hk
  split at hk
  case h_2 => exact hk.elim
  rename_i cs hz
  obtain ⟨h1, hp, hk⟩ := hk
  obtain ⟨i, z, hi, hzz, rfl⟩ := zero_info hz
  obtain ⟨gh', hr, hS, hbb, hbo⟩ := h.freshBox (us := z.cells) (t := t) (ds := z.cells.toList.map .sc) (G := fun _ => No) hp (by simp) (fun x hx => by simpa using List.all_eq_true.1 h1 x (by simpa using hx)) (fun j c hc => by
    simp only [List.getElem?_map, Option.map_eq_some_iff] at hc
    obtain ⟨x, hx, rfl⟩ := hc
    have : z.cells.toList.getD j undef = x := by simp [List.getD, hx]
    rw [this]
    exact .sc (by simpa using List.all_eq_true.1 h1 x (List.mem_of_getElem? hx))) (fun _ _ _ hk => hk.elim) (fun _ _ _ _ _ hk => hk.elim)
  refine ⟨.value (.pointer (some ⟨w.heap.size, 0, none⟩)), w.alloc (.cells z.cells t), ?_, Or.inl ⟨_, rfl, _, gh', hk, ?_⟩⟩
  · simp [execOp, ho, Instr.alloc, zeroValue, typeInfo, hi, hzz, newVar, newRow]
  · rw [hd]
    have hr' := hr.less (X' := No) (fun k hk => hk.elim)
    have hv := VR.bp (P := P) (w := w.alloc (.cells z.cells t)) (gh := gh') (j := 0) (fresh_look st d (.box (z.cells.toList.map .sc)))
    rw [hbb, hbo] at hv
    exact hr'.set hlt hv

theorem box_sound (h : Rep P C No st a w gh) {o : Oper} {t : TypeId} {x : Operand} {d : Nat} {K : St → Prop} (ho : o.op = .box t x) (hd : o.dst = some d) (hlt : d < st.nt) (hok : (st.ev x).ok) (hk : aBox C st d (st.ev x).str K)
    (hnt : ∀ vs, flatV (st.ev x).str = some vs → (toDs st vs).2.1.nt = st.nt) : Comes1 P C o a w K := by
  unfold aBox at hk
  split at hk
  case h_2 => exact hk.elim
  rename_i vs hf
  obtain ⟨hs, hp, hk⟩ := hk
  obtain ⟨hsz, h1, hv⟩ := flat_sound (h.use x hok) hf
  obtain ⟨gh1, G, hr, hS, hq, hl, how, hG, hd1, _⟩ := toDs_sound h hv hs
  obtain ⟨gh', hr', hS', hbb, hbo⟩ := hr.freshBox (us := (a.eval x).cells) (t := t) (ds := (toDs st vs).2.2) (G := G) hp (by rw [hsz, hl]) h1 (fun j c hc => hS ▸ how j c hc) (fun j k hj hk => Or.inr ⟨j, by omega, hk⟩) (fun j j' k hj hj' hk hk' => hd1 j j' k (by omega) (by omega) hk hk')
  refine ⟨.value (.pointer (some ⟨w.heap.size, 0, none⟩)), w.alloc (.cells (a.eval x).cells t), ?_, Or.inl ⟨_, rfl, _, gh', hk, ?_⟩⟩
  · simp [execOp, ho, Instr.box, newVar, newRow]
  · rw [hd]
    have hr2 := hr'.less (X' := No) (fun k hk => hk.elim)
    have hv := VR.bp (P := P) (w := w.alloc (.cells (a.eval x).cells t)) (gh := gh') (j := 0) (fresh_look (toDs st vs).2.1 d (.box (toDs st vs).2.2))
    rw [hbb, hbo] at hv
    exact hr2.set (by have := hnt vs hf; simp only [St.fresh, St.put, St.kill]; omega) hv

theorem navO_nil {o : Nat} {e e' : TypeId} {es es' : List (List D)} {v : Value} (hn : NavO P w gh o (.row e es) [] (.row false e' es') v) : e = e' ∧ es = es' ∧ gh.hv o = v := by
  generalize hd' : D.row false e' es' = dd at hn
  generalize hv' : v = y at hn
  simp only [NavO] at hn
  generalize h1 : D.row false e es = d1 at hn
  generalize h2 : gh.hv o = v1 at hn
  cases hn
  subst h1
  cases hd'
  exact ⟨rfl, rfl, rfl⟩

theorem nil_of_VR {x : Value} (h : VR P w gh ob (.sc x) u) : u = x := h.sc_inv

theorem assign_sound (h : Rep P C No st a w gh) {o : Oper} {x : Operand} {d : Nat} {K : St → Prop} (ho : o.op = .assign x) (hd : o.dst = some d) (hlt : d < st.nt) (hk : aAssign P C st o.type d (st.ev x) K) : Comes1 P C o a w K := by
  have hrun : (execOp a.eval o).run P w = .ok (.value (a.eval x)) w := by simp [execOp, ho]
  have hv := h.ev x
  unfold aAssign at hk
  split at hk
  · rename_i he
    rw [he] at hv
    have hu := hv.sc_inv
    split at hk
    case h_2 => exact hk.elim
    rename_i e hel
    obtain ⟨hp, hk⟩ := hk
    obtain ⟨gh', hr, hS, hhv⟩ := h.nilRow (d := d) e hp
    refine ⟨_, _, hrun, Or.inl ⟨_, rfl, _, gh', hk, ?_⟩⟩
    rw [hd, hu]
    exact hr.set hlt (VR.whole (fresh_look st d _) (by rw [hhv]; rfl) (Nat.le_refl 0))
  · rename_i o' n he
    rw [he] at hv
    split at hk
    · split at hk
      case h_2 => exact hk.elim
      rename_i e es hl
      obtain ⟨hp, hk⟩ := hk
      obtain ⟨gh', hr, hS, hhv⟩ := h.rename hl hp
      refine ⟨_, _, hrun, Or.inl ⟨_, rfl, _, gh', hk, ?_⟩⟩
      rw [hd]
      refine hr.set hlt ?_
      generalize hu : a.eval x = u at hv
      cases hv with
      | ref hx hn hle =>
        rw [hl] at hx; cases hx
        obtain ⟨rfl, rfl, hv'⟩ := navO_nil hn
        exact VR.whole (fresh_look _ d _) (by rw [hhv, hv']) hle
    · exact ⟨_, _, hrun, Or.inl ⟨_, rfl, _, gh, hk, by rw [hd]; exact h.set hlt (he ▸ hv)⟩⟩
  · exact ⟨_, _, hrun, Or.inl ⟨_, rfl, _, gh, hk, by rw [hd]; exact h.set hlt hv⟩⟩

theorem make_sound (h : Rep P C No st a w gh) {o : Oper} {t : TypeId} {x y : Operand} {d : Nat} {K : St → Prop} (ho : o.op = .makeSlice t x y) (hd : o.dst = some d) (hlt : d < st.nt) (hox : (st.ev x).ok) (hoy : (st.ev y).ok)
    (hk : aMake P C st t d (st.ev x).str (st.ev y).str K) (hpos : Sized P) : Comes1 P C o a w K := by
  unfold aMake at hk
  split at hk
  case h_2 => exact hk.elim
  rename_i k1 n k2 m e1 e2
  have hx := (e1 ▸ h.use x hox).sc_inv
  have hy := (e2 ▸ h.use y hoy).sc_inv
  split at hk
  case h_2 => exact hk.elim
  rename_i e hel
  split at hk
  case h_2 => exact hk.elim
  rename_i z hz
  obtain ⟨rfl, h0, hby, hn, hz1, hzl, hp, hk⟩ := hk
  obtain ⟨i, zv, hi, hzz, rfl⟩ := zero_info hz
  have hu := elT_some hel
  have hsp := hpos t e hel
  have hsi : i.size = szT P e := by unfold szT; simp [hi]
  have hbi : i.bytes = bytesT P e := by unfold bytesT; simp [hi]
  have hr := run_make (P := P) w t e i zv hu hi hzz k1 k2 n n h0 (Int.le_refl _) (by rw [hbi]; exact hby) (by omega)
  have hzs : zv.cells.size = szT P e := by simpa using hzl
  have hml : (madeCells zv.cells (n.toNat * i.size)).size = n.toNat * szT P e := by rw [size_madeCells, hsi]
  have ca : ∀ i' j' c, cellAt (List.replicate n.toNat (zv.cells.toList.map D.sc)) i' j' = some c → ∃ x, zv.cells[j']? = some x ∧ c = .sc x ∧ i' < n.toNat ∧ j' < szT P e := by
    intro i' j' c hc
    have h1 := cellAt_lt hc
    rw [List.length_replicate] at h1
    unfold cellAt at hc
    rw [List.getElem?_replicate, if_pos h1] at hc
    simp only [Option.bind_some, List.getElem?_map, Option.map_eq_some_iff, Array.getElem?_toList] at hc
    obtain ⟨x, hx, rfl⟩ := hc
    exact ⟨x, hx, rfl, h1, by rw [← hzs]; exact (Array.getElem?_eq_some_iff.1 hx).1⟩
  obtain ⟨gh', hrep, hS, hhv⟩ := h.madeRow (d := anon d) (cells := madeCells zv.cells (n.toNat * i.size)) (e := e) (es := List.replicate n.toNat (zv.cells.toList.map D.sc)) (G := fun _ _ => No) hp
    (by rw [hml, List.length_replicate]) (by rw [List.length_replicate]; unfold maxLen; omega) (fun l hl => by rw [List.eq_of_mem_replicate hl]; simpa using hzs)
    (fun x hx => by
      obtain ⟨k, hk, rfl⟩ := List.getElem_of_mem hx
      simp only [madeCells, Array.toList_map, List.getElem_map]
      have hmod : ∀ q, q % zv.cells.size < zv.cells.size := fun q => Nat.mod_lt _ (by omega)
      rw [getElem!_pos zv.cells _ (hmod _)]
      simpa using List.all_eq_true.1 hz1 _ (by simp))
    (fun i' j' c hc => by
      obtain ⟨x, hx, rfl, hil, hjl⟩ := ca i' j' c hc
      have hlt' := off_lt hil hjl
      have : (madeCells zv.cells (n.toNat * i.size)).toList.getD (i' * szT P e + j') undef = x := by
        have hj2 : (i' * szT P e + j') % zv.cells.size = j' := by rw [hzs, Nat.mul_comm, Nat.mul_add_mod]; exact Nat.mod_eq_of_lt hjl
        rw [getD_eq (by simpa [size_madeCells, hsi] using hlt')]
        simp only [madeCells, Array.toList_map, List.getElem_map, Array.toList_range, List.getElem_range, hj2]
        rw [getElem!_pos zv.cells j' (by omega)]
        exact Option.some.inj ((Array.getElem?_eq_getElem (by omega)).symm.trans hx)
      rw [this]
      exact .sc (by simpa using List.all_eq_true.1 hz1 x (by simpa using Array.mem_of_getElem? hx)))
    (fun _ _ _ _ _ hk => hk.elim) (fun _ _ _ _ _ _ _ _ _ hk => hk.elim)
  refine ⟨.value (.slice (some ⟨w.heap.size, 0, none⟩) n.toNat n.toNat), w.alloc (.cells (madeCells zv.cells (n.toNat * i.size)) e), ?_, Or.inl ⟨_, rfl, _, gh', hk, ?_⟩⟩
  · simp [execOp, ho, hx, hy, Sem.run_bind, hr]
  · rw [hd]
    refine (hrep.less (X' := No) (fun k hk => hk.elim)).set hlt ?_
    exact VR.whole (fresh_look st (anon d) _) (by rw [hhv]; simp) (by simp)
end
end Go.Proofs.YtaodmogcjpainaaDoor.AW
