/- A row is written no more; what a function is asked; that its code does it. No condition. -/
import Derived.Test.YtaodmogcjpainaaDoorA19
namespace Go.Proofs.YtaodmogcjpainaaDoor.AW
open Go.RowKit
set_option linter.unusedSimpArgs false
set_option linter.unusedVariables false

mutual
def frzV (o : Nat) (e : TypeId) (es : List (List D)) : V → V
  | .ref o' p n => if o' = o then (match p with | [] => .imm e (shLL (es.take n)) | _ => .dead) else .ref o' p n
  | .bp o' j => if o' = o then .dead else .bp o' j
  | .rp o' p i j => if o' = o then .dead else .rp o' p i j
  | .agg vs => .agg (frzL o e es vs)
  | .tup vs => .tup (frzL o e es vs)
  | .cond c v => .cond c (frzV o e es v)
  | .dead => .dead
  | .und => .und
  | .sc v => .sc v
  | .nil t => .nil t
  | .imm t l => .imm t l
  | .ip ch j => .ip ch j
def frzL (o : Nat) (e : TypeId) (es : List (List D)) : List V → List V
  | [] => []
  | v :: r => frzV o e es v :: frzL o e es r
end

def St.frz (st : St) (o : Nat) : St := match look st.ob o with
  | some (.row e es) => { st with tm := mapT (frzV o e es) st.tm, ob := drop st.ob o }
  | _ => st

section
variable {P : Program} {w w1 : World} {C : Cx} {X : Nat → Prop} {gh : Gh} {st st' st'' : St} {a : Act} {v : V} {u : Value} {ob ob' : List (Nat × Ob)} {S S' : Nat → Prop} {K : St → Prop} {d : D} {F : Nat → Prop}

theorem frzL_get (o : Nat) (e : TypeId) (es : List (List D)) (vs : List V) (i : Nat) : (frzL o e es vs)[i]? = (vs[i]?).map (frzV o e es) := by
  induction vs generalizing i with
  | nil => simp [frzL]
  | cons v r ih => cases i <;> simp [frzL, ih]
theorem frzL_length (o : Nat) (e : TypeId) (es : List (List D)) (vs : List V) : (frzL o e es vs).length = vs.length := by
  induction vs with
  | nil => rfl
  | cons v r ih => simp [frzL, ih]

def Gh.more (gh : Gh) (F : Nat → Prop) : Gh := { gh with S := fun k => gh.S k ∨ F k }

theorem ObR.mono {o : Nat} {x : Ob} (h : ObR P w gh o x) : ObR P w (gh.more F) o x := by
  cases h with
  | row h => exact .row (h.mono (fun k hk => Or.inl hk))
  | box xs G hb hl h1 hc hx dis nb hF => exact .box xs G hb hl h1 hc (fun j d hd => (hx j d hd).mono (fun k hk => Or.inl hk)) dis nb hF

theorem VR.frz (h : VR P w gh ob v u) {o : Nat} {e : TypeId} {es : List (List D)} (ho : look ob o = some (.row e es)) (hob : ObR P w gh o (.row e es)) : VR P w (gh.more (gh.F o)) (drop ob o) (frzV o e es v) u := by
  have hne : ∀ o' x, o' ≠ o → look ob o' = some x → look (drop ob o) o' = some x := fun o' x hne hx => by rw [look_drop, if_neg (fun e => hne e.symm)]; exact hx
  induction h with
  | dead => exact .dead
  | und => exact .und
  | sc h => exact .sc h
  | nil => exact .nil
  | imm h => exact .imm (h.mono (fun k hk => Or.inl hk))
  | @ref o' n p x e' es' A c hx hn hle =>
    simp only [frzV]
    by_cases heq : o' = o
    · rw [if_pos heq]
      subst heq
      rw [ho] at hx; cases hx
      cases p with
      | cons q p => exact .dead
      | nil =>
        obtain ⟨rfl, rfl, hv⟩ := navO_nil hn
        cases hob with
        | row how =>
          rw [hv] at how
          have hro : Ro P w (gh.more (gh.F o')).S (.row false e es) (.slice A es.length c) := how.ro (fun k hk => Or.inr hk) (fun k hk => Or.inl hk)
          have hp := Ro.part hro.sh (l := 0) (h := n) (Nat.zero_le _) (by rw [shLL_map, List.length_map]; exact hle)
          have e6 : (Option.map (fun x => x.add (0 * szT P e)) A) = A := by cases A <;> simp [Addr.add]
          rw [e6] at hp
          simp only [ite_self, Nat.sub_zero, List.drop_zero] at hp
          have e7 : (shLL es).take n = shLL (es.take n) := by rw [shLL_map, shLL_map, List.map_take]
          rw [e7] at hp
          exact .imm hp
    · rw [if_neg heq]
      exact .ref (hne o' x heq hx) (hn.ghc rfl rfl rfl) hle
  | @bp o' j cs hx =>
    simp only [frzV]
    by_cases heq : o' = o
    · rw [if_pos heq]; exact .dead
    · rw [if_neg heq]; exact .bp (gh := gh.more (gh.F o)) (hne o' _ heq hx)
  | @rp o' i j p x e' es' ad c hx hn =>
    simp only [frzV]
    by_cases heq : o' = o
    · rw [if_pos heq]; exact .dead
    · rw [if_neg heq]; exact .rp (hne o' x heq hx) (hn.ghc rfl rfl rfl)
  | ip U hs h => exact .ip U (Or.inl hs) (fun q d hd => ⟨(h q d hd).1, (h q d hd).2.mono (fun k hk => Or.inl hk)⟩)
  | agg hl h1 h ih =>
    simp only [frzV]
    refine .agg (by rw [frzL_length]; exact hl) h1 (fun i v hv => ?_)
    rw [frzL_get] at hv
    obtain ⟨v0, hv0, rfl⟩ := Option.map_eq_some_iff.1 hv
    exact ih i v0 hv0
  | tup hl h ih =>
    simp only [frzV]
    refine .tup (by rw [frzL_length]; exact hl) (fun i v hv => ?_)
    rw [frzL_get] at hv
    obtain ⟨v0, hv0, rfl⟩ := Option.map_eq_some_iff.1 hv
    exact ih i v0 hv0
  | cond ht hf ih => simp only [frzV]; exact .cond ih hf

/-- Whatever is one's own may be written no more. -/
def Cx.full (C : Cx) : Prop := ∀ k, (C.w0.heap.size ≤ k ∨ ∃ f, C.may k f) → C.z k

theorem Rep.frz (h : Rep P C X st a w gh) (hz : C.full) (o : Nat) : ∃ gh', Rep P C X (st.frz o) a w gh' := by
  unfold St.frz
  split
  case h_2 => exact ⟨gh, h⟩
  rename_i e es ho
  have hd : ∀ o' x, look (drop st.ob o) o' = some x → o' ≠ o ∧ look st.ob o' = some x := fun o' x hx => by
    rw [look_drop] at hx
    by_cases e1 : o = o'
    · rw [if_pos e1] at hx; cases hx
    · rw [if_neg e1] at hx; exact ⟨fun e => e1 e.symm, hx⟩
  refine ⟨gh.more (gh.F o), ?_⟩
  exact {
    obs := fun o' b hb => (h.obs o' b (hd o' b hb).2).mono
    dis := fun o1 o2 b1 b2 k h1 h2 => h.dis o1 o2 b1 b2 k (hd _ _ h1).2 (hd _ _ h2).2
    sS := fun k hk => hk.elim (h.sS k) (fun hk => (h.obs o _ ho).lt k hk)
    nS := fun o' b k hb hk hS => hS.elim (h.nS o' b k (hd _ _ hb).2 hk) (fun hk' => (hd _ _ hb).1 (h.dis o' o b _ k (hd _ _ hb).2 ho hk hk'))
    wrR := fun o' e' es' k hb => h.wrR o' e' es' k (hd _ _ hb).2
    wrB := fun o' cs k hb => h.wrB o' cs k (hd _ _ hb).2
    wrC := fun o' cs j hb => h.wrC o' cs j (hd _ _ hb).2
    kept := h.kept
    pins := fun o' x hp hn => h.pins o' x hp (fun e' => by
      cases hq : look (drop st.ob o) o' with
      | none => exact hn hq
      | some y => have := (hd _ _ hq).2; rw [e'] at this; cases this)
    tms := fun t => by
      have : St.get { st with tm := mapT (frzV o e es) st.tm, ob := drop st.ob o } t = frzV o e es (st.get t) := by
        unfold St.get; simp only [look_mapT]
        cases look st.tm t <;> simp [frzV]
      rw [this]
      exact (h.tms t).frz ho (h.obs o _ ho)
    nt := h.nt
    dfs := h.dfs
    xl := h.xl
    xS := fun k hk hS => hS.elim (h.xS k hk) (fun hk' => h.xF o _ k ho hk hk')
    xF := fun o' b k hb => h.xF o' b k (hd _ _ hb).2
    xW := h.xW
    s0S := fun k hk => Or.inl (h.s0S k hk)
    sZ := fun k hk => hk.elim (h.sZ k) (fun hk' => hz k ((h.wrR o e es k ho hk').imp id (fun hh => ⟨0, hh 0⟩))) }

theorem Ent.frz (hz : C.full) (o : Nat) : Ent P C st (st.frz o) := fun a w gh h => h.frz hz o
end

/-! ### What a function is asked -/
def isPin (o : Nat) : Bool := decide (2000 ≤ o) && decide (o < 3000)

abbrev RV := Bool × List D

def rvOf (v : V) (ds : List D) : RV := match v with
  | .agg _ => (true, ds)
  | _ => (false, ds)
def rvsOf : List V → List (List D) → List RV
  | v :: vs, d :: ds => rvOf v d :: rvsOf vs ds
  | _, _ => []

def tupV (vs : List Value) : Value := match vs with
  | [x] => x
  | vs => .tuple vs.toArray

def zipT {α : Type} : Nat → List α → List (Nat × α)
  | _, [] => []
  | k, v :: r => (k, v) :: zipT (k + 1) r

/-- A result's cells, each one's own, with their blocks. -/
structure Res (P : Program) (w : World) (S : Nat → Prop) (rs : List RV) (vs : List Value) (G : Nat → Nat → Nat → Prop) : Prop where
  len : rs.length = vs.length
  one : ∀ (i : Nat) (r : RV) (v : Value), rs[i]? = some r → vs[i]? = some v → r.1 = false → v.oneCell' = true
  agg : ∀ (i : Nat) (r : RV) (v : Value), rs[i]? = some r → vs[i]? = some v → r.1 = true → ∃ cs, v = .agg cs
  sz : ∀ (i : Nat) (r : RV) (v : Value), rs[i]? = some r → vs[i]? = some v → v.cells.size = r.2.length
  c1 : ∀ (i : Nat) (v : Value), vs[i]? = some v → ∀ x ∈ v.cells, x.oneCell' = true
  ow : ∀ (i : Nat) (r : RV) (v : Value) (j : Nat) (d : D), rs[i]? = some r → vs[i]? = some v → r.2[j]? = some d → Ow P w S d (v.cells.toList.getD j undef) (G i j)
  dis : ∀ (i j i' j' : Nat) (r r' : RV) (d d' : D) (k : Nat), rs[i]? = some r → r.2[j]? = some d → rs[i']? = some r' → r'.2[j']? = some d' → G i j k → G i' j' k → i = i' ∧ j = j'

/-- What is in hand of the results. -/
def inHand (rs : List RV) (G : Nat → Nat → Nat → Prop) (k : Nat) : Prop := ∃ (i j : Nat) (r : RV) (d : D), rs[i]? = some r ∧ r.2[j]? = some d ∧ G i j k

/-- What a call hands over: something to be looked at, or a row that is the callee's from then on. -/
inductive Arg where
  | ro (t : V)
  | mv (e : TypeId) (es : List (List D))

def argsV : Nat → List Arg → List V
  | _, [] => []
  | k, .ro t :: r => t :: argsV (k + 1) r
  | k, .mv e es :: r => .ref k [] es.length :: argsV (k + 1) r
def argsOb : Nat → List Arg → List (Nat × Ob)
  | _, [] => []
  | k, .ro t :: r => argsOb (k + 1) r
  | k, .mv e es :: r => (k, .row e es) :: argsOb (k + 1) r

/-- What a function does with arguments of which this is known. -/
def SoundAt (P : Program) (f : FuncId) (ts : (Nat → Value) → List V) (ob0 : List (Nat × Ob)) (post : List RV → St → Prop) : Prop :=
  entersB P f = true ∧ ∀ (uf : Nat → Value) (ub : Nat → Nat × Nat) (C : Cx) (w : World) (gh : Gh) (us : Array Value), C.w0 = w → (∀ o, isPin o = false → C.pin o = none) → (∀ o, isPin o = true → C.pin o = some (uf o, ub o)) → C.full → us.size = (ts uf).length →
    Rep P C No ⟨us.size, zipT 0 (ts uf), ob0⟩ ⟨us, []⟩ w gh →
    Calls P f us w (fun e w' => ∃ (vs : List Value) (rs : List RV) (st' : St) (a' : Act) (gh' : Gh) (G : Nat → Nat → Nat → Prop), e = .returned (tupV vs) ∧ post rs st' ∧ Res P w' gh'.S rs vs G ∧ Rep P C (inHand rs G) st' a' w' gh')

/-- .. and the same, an argument at a time. -/
def Sound (P : Program) (f : FuncId) (as : List Arg) (post : List RV → St → Prop) : Prop := SoundAt P f (fun _ => argsV 0 as) (argsOb 0 as) post

/-- Where a result lies: in a slot, or in a variable. -/
inductive RR where
  | tm (t : Nat)
  | ce (t : Nat) (ty : TypeId)
def RR.var : RR → ResultVar
  | .tm t => .tmp t
  | .ce t ty => .cell t ty
def getR (P : Program) (st : St) : RR → Prop × V
  | .tm t => ((st.get t).ok, (st.get t).str)
  | .ce t ty => ((st.get t).ok ∧ (loadV P st ty (st.get t).str).1 ∧ (loadV P st ty (st.get t).str).2.ok, (loadV P st ty (st.get t).str).2.str)
def valR (P : Program) (a : Act) (w : World) : RR → Value
  | .tm t => a.tmps.getD t undef
  | .ce t ty => match (Instr.loadAt ty (a.tmps.getD t undef)).run P w with
    | .ok y _ => y
    | _ => undef
def getsOk (P : Program) (st : St) : List RR → Prop
  | [] => True
  | t :: r => (getR P st t).1 ∧ getsOk P st r
def gets (P : Program) (st : St) : List RR → List V
  | [] => []
  | t :: r => (getR P st t).2 :: gets P st r
def finV (post : List RV → St → Prop) (st : St) (vs : List V) : Prop := match flats vs with
  | some fs => (toDss st fs).1 ∧ post (rvsOf vs (toDss st fs).2.2) (toDss st fs).2.1
  | none => False
def Fin (P : Program) (res : List RR) (post : List RV → St → Prop) (st : St) : Prop := getsOk P st res ∧ finV post st (gets P st res)

def FinE (P : Program) (res : List RR) (post : List RV → St → Prop) : Exit → St → Prop
  | .normal, st => Fin P res post st
  | .ret, st => Fin P res post st
  | _, _ => False

section
variable {P : Program} {w w1 : World} {C : Cx} {X : Nat → Prop} {gh : Gh} {st st' st'' : St} {a : Act} {v : V} {u : Value} {ob ob' : List (Nat × Ob)} {S S' : Nat → Prop} {K : St → Prop} {d : D} {F : Nat → Prop}

theorem getsOk_mem {st : St} : ∀ {res : List RR}, getsOk P st res → ∀ t ∈ res, (getR P st t).1
  | [], _, t, h => by simp at h
  | x :: r, h, t, ht => by
    rcases List.mem_cons.1 ht with rfl | ht
    · exact h.1
    · exact getsOk_mem h.2 t ht
theorem gets_map {st : St} : ∀ (res : List RR), gets P st res = res.map fun t => (getR P st t).2
  | [] => rfl
  | x :: r => by simp [gets, gets_map r]

theorem look_zipT {α : Type} : ∀ (l : List α) (k t : Nat), look (zipT k l) t = if k ≤ t then l[t - k]? else none
  | [], k, t => by simp [zipT, look]
  | v :: r, k, t => by
    simp only [zipT, look]
    by_cases h : t = k
    · subst h; simp
    · rw [if_neg h, look_zipT r (k + 1) t]
      by_cases h2 : k + 1 ≤ t
      · rw [if_pos h2, if_pos (by omega), show t - k = (t - (k + 1)) + 1 by omega, List.getElem?_cons_succ]
      · rw [if_neg h2, if_neg (by omega)]

theorem rvsOf_get : ∀ {vs : List V} {ds : List (List D)}, vs.length = ds.length → (rvsOf vs ds).length = vs.length ∧ ∀ (i : Nat) (r : RV), (rvsOf vs ds)[i]? = some r → ∃ v d, vs[i]? = some v ∧ ds[i]? = some d ∧ r = rvOf v d
  | [], [], _ => ⟨rfl, fun i r h => by simp [rvsOf] at h⟩
  | v :: vs, d :: ds, h => by
    obtain ⟨h1, h2⟩ := rvsOf_get (vs := vs) (ds := ds) (by simpa using h)
    refine ⟨by simp [rvsOf, h1], fun i r hr => ?_⟩
    cases i with
    | zero => simp [rvsOf] at hr; exact ⟨v, d, rfl, rfl, hr.symm⟩
    | succ i => simp only [rvsOf, List.getElem?_cons_succ] at hr ⊢; exact h2 i r hr
  | [], _ :: _, h => by simp at h
  | _ :: _, [], h => by simp at h

theorem rvOf_ds (v : V) (ds : List D) : (rvOf v ds).2 = ds := by cases v <;> rfl

theorem getR_sound (h : Rep P C X st a w gh) {r : RR} (hr : (getR P st r).1) : VR P w gh st.ob (getR P st r).2 (valR P a w r) ∧
    ∀ (t : Nat) (ty : TypeId), r = .ce t ty → (do loadVar ty (← asAddr (a.tmps.getD t undef)) : Sem Value).run P w = .ok (valR P a w r) w := by
  cases r with
  | tm t => exact ⟨(h.tms t).use hr, fun _ _ e => by cases e⟩
  | ce t ty =>
    obtain ⟨h1, h2, h3⟩ := hr
    obtain ⟨y, hy, hv⟩ := load_sound h ((h.tms t).use h1) h2
    have e1 : valR P a w (.ce t ty) = y := by simp only [valR, hy]
    rw [e1]
    refine ⟨hv.use h3, fun t' ty' e => ?_⟩
    cases e
    revert hy
    generalize a.tmps.getD t undef = u
    intro hy
    unfold Instr.loadAt Instr.sureAddr at hy
    unfold asAddr
    cases u with
    | pointer p =>
      cases p with
      | some ad => exact hy
      | none => simp [Sem.run_bind, stuck] at hy
    | _ => simp [Sem.run_bind, stuck] at hy

theorem results_tmps {fn : Func} {res : List RR} (hr : fn.results.toList = res.map RR.var) (h : Rep P C X st a w gh) (hok : ∀ r ∈ res, (getR P st r).1) : (results fn a.tmps).run P w = .ok (tupV (res.map (valR P a w))) w := by
  have key : ∀ (f : ResultVar → Sem Value), (∀ r ∈ res, (f r.var).run P w = .ok (valR P a w r) w) → ∀ (l : List RR), (∀ r ∈ l, r ∈ res) → ((l.map RR.var).mapM f).run P w = .ok (l.map (valR P a w)) w := by
    intro f hf l hl
    induction l with
    | nil => rfl
    | cons t l ih => simp only [List.map_cons, List.mapM_cons, Sem.run_bind, Sem.run_pure, Result.andThen_ok, ih (fun r hr => hl r (List.mem_cons_of_mem _ hr)), hf t (hl t (List.mem_cons_self ..))]
  unfold results
  rw [Array.mapM_eq_mapM_toList, hr, Sem.run_bind, Sem.run_map, key _ (fun r hr' => ?_) res (fun r h => h)]
  · generalize (res.map (valR P a w)) = l
    match l with
    | [] => rfl
    | [x] => rfl
    | x :: y :: r => simp [tupV]
  · have := getR_sound h (hok r hr')
    cases r with
    | tm t => rfl
    | ce t ty => exact this.2 t ty rfl

theorem fin_sound {fn : Func} {res : List RR} {post : List RV → St → Prop} (hres : fn.results.toList = res.map RR.var) (h : Rep P C No st a w gh) (hf : Fin P res post st) :
    a.defers = [] ∧ ∃ v, (results fn a.tmps).run P w = .ok v w ∧ ∃ (vs : List Value) (rs : List RV) (st' : St) (a' : Act) (gh' : Gh) (G : Nat → Nat → Nat → Prop), Ending.returned v = .returned (tupV vs) ∧ post rs st' ∧ Res P w gh'.S rs vs G ∧ Rep P C (inHand rs G) st' a' w gh' := by
  obtain ⟨hok, hf⟩ := hf
  replace hok := getsOk_mem hok
  rw [gets_map] at hf
  unfold finV at hf
  refine ⟨h.dfs, _, results_tmps hres h hok, res.map (valR P a w), ?_⟩
  split at hf
  case h_2 => exact hf.elim
  rename_i fs hfl
  obtain ⟨hs, hp⟩ := hf
  obtain ⟨hfl1, hfl2⟩ := flats_get hfl
  have hval : ∀ (i : Nat) (t : RR), res[i]? = some t → ∃ f, fs[i]? = some f ∧ flatV (getR P st t).2 = some f ∧ VR P w gh st.ob (getR P st t).2 (valR P a w t) ∧ (valR P a w t).cells.size = f.length ∧ (∀ x ∈ (valR P a w t).cells, x.oneCell' = true) ∧ ∀ j x, f[j]? = some x → VR P w gh st.ob x ((valR P a w t).cells.toList.getD j undef) := by
    intro i t hit
    obtain ⟨f, hf, hff⟩ := hfl2 i (getR P st t).2 (by simp [hit])
    have hv := (getR_sound h (hok t (List.mem_of_getElem? hit))).1
    obtain ⟨g1, g2, g3⟩ := flat_sound hv hff
    exact ⟨f, hf, hff, hv, g1, g2, g3⟩
  obtain ⟨gh1, G, hr, hS, hq, hdl, hdlen, how, hGX, hdis, _⟩ := toDss_sound (uss := res.map fun t => (valR P a w t).cells.toList) h (fun i' f hf j x hx => by
    have hil : i' < res.length := by
      have := (List.getElem?_eq_some_iff.1 hf).1
      rw [hfl1, List.length_map] at this; exact this
    obtain ⟨f', hf', _, _, _, _, h3⟩ := hval i' _ (List.getElem?_eq_getElem hil)
    rw [hf] at hf'; cases hf'
    have e1 : (res.map fun t => (valR P a w t).cells.toList).getD i' [] = (valR P a w res[i']).cells.toList := by
      simp [List.getD, List.getElem?_eq_getElem hil]
    rw [e1]; exact h3 j x hx) hs
  obtain ⟨rl, rg⟩ := rvsOf_get (vs := res.map fun t => (getR P st t).2) (ds := (toDss st fs).2.2) (by rw [hdl, hfl1])
  have hrs : ∀ (i : Nat) (r : RV), (rvsOf (res.map fun t => (getR P st t).2) (toDss st fs).2.2)[i]? = some r → ∃ t d, res[i]? = some t ∧ (toDss st fs).2.2[i]? = some d ∧ r = rvOf (getR P st t).2 d := fun i r hr => by
    obtain ⟨v, d, hv, hd, rfl⟩ := rg i r hr
    simp only [List.getElem?_map, Option.map_eq_some_iff] at hv
    obtain ⟨t, ht, rfl⟩ := hv
    exact ⟨t, d, ht, hd, rfl⟩
  have hvs : ∀ (i : Nat) (t : RR) (v : Value), res[i]? = some t → (res.map (valR P a w))[i]? = some v → v = valR P a w t := fun i t v ht hv => by
    simp only [List.getElem?_map, ht, Option.map_some, Option.some.injEq] at hv; exact hv.symm
  have hcell : ∀ (i j : Nat) (d : List D) (x : D), (toDss st fs).2.2[i]? = some d → d[j]? = some x → cellAt (toDss st fs).2.2 i j = some x := fun i j d x hd hx => by
    unfold cellAt; rw [hd, Option.bind_some, hx]
  refine ⟨rvsOf (res.map fun t => (getR P st t).2) (toDss st fs).2.2, _, a, gh1, G, rfl, hp, ?_, hr.less ?_⟩
  · refine ⟨by rw [rl]; simp, ?_, ?_, ?_, ?_, ?_, ?_⟩
    · intro i r v hr' hv h1
      obtain ⟨t, d, ht, hd, rfl⟩ := hrs i r hr'
      rw [hvs i t v ht hv]
      obtain ⟨f, hf, hff, hvr, _⟩ := hval i t ht
      generalize valR P a w t = u at hvr
      revert h1 hff
      generalize (getR P st t).2 = vv at hvr
      intro h1 hff
      cases hvr with
      | agg => simp [rvOf] at h1
      | sc h => exact h
      | nil => rfl
      | imm h => exact h.one
      | ref => rfl
      | _ => simp [flatV] at hff
    · intro i r v hr' hv h1
      obtain ⟨t, d, ht, hd, rfl⟩ := hrs i r hr'
      rw [hvs i t v ht hv]
      obtain ⟨f, hf, hff, hvr, _⟩ := hval i t ht
      generalize valR P a w t = u at hvr
      revert h1 hff
      generalize (getR P st t).2 = vv at hvr
      intro h1 hff
      cases hvr with
      | agg => exact ⟨_, rfl⟩
      | _ => simp [rvOf] at h1
    · intro i r v hr' hv
      obtain ⟨t, d, ht, hd, rfl⟩ := hrs i r hr'
      rw [hvs i t v ht hv, rvOf_ds]
      obtain ⟨f, hf, _, _, h1, _⟩ := hval i t ht
      obtain ⟨ds, h2, h3⟩ := hdlen i f hf
      rw [hd] at h2; cases h2
      rw [h1, h3]
    · intro i v hv
      simp only [List.getElem?_map, Option.map_eq_some_iff] at hv
      obtain ⟨t, ht, rfl⟩ := hv
      obtain ⟨f, _, _, _, _, h2, _⟩ := hval i t ht
      exact h2
    · intro i r v j x hr' hv hx
      obtain ⟨t, d, ht, hd, rfl⟩ := hrs i r hr'
      rw [rvOf_ds] at hx
      rw [hvs i t v ht hv, hS]
      have := how i j x (hcell i j d x hd hx)
      have e1 : (res.map fun t => (valR P a w t).cells.toList).getD i [] = (valR P a w t).cells.toList := by
        simp [List.getD, ht]
      rw [e1] at this; exact this
    · intro i j i' j' r r' x x' k hr1 hx hr2 hx' hk hk'
      obtain ⟨t, d, ht, hd, rfl⟩ := hrs i r hr1
      obtain ⟨t', d', ht', hd', rfl⟩ := hrs i' r' hr2
      rw [rvOf_ds] at hx hx'
      exact hdis i j i' j' x x' k (hcell i j d x hd hx) (hcell i' j' d' x' hd' hx') hk hk'
  · rintro k ⟨i, j, r, x, hr', hx, hk⟩
    obtain ⟨t, d, ht, hd, rfl⟩ := hrs i r hr'
    rw [rvOf_ds] at hx
    exact Or.inr ⟨i, j, x, hcell i j d x hd hx, hk⟩

/-- A function's code does what it is asked. -/
theorem sound_of_code {f : FuncId} {fn : Func} {c : Code} {res : List RR} {n : Nat} {ts : (Nat → Value) → List V} {ob0 : List (Nat × Ob)} {post : List RV → St → Prop} (hz : Sized P) (hf : P.funcs[f]? = some fn) (hb : fn.body = some c) (hen : entersB P f = true) (hres : fn.results.toList = res.map RR.var)
    (hn : fn.ntmps = n) (hnt : ∀ uf, (ts uf).length ≤ n) (h : ∀ (uf : Nat → Value) (ub : Nat → Nat × Nat) (C : Cx), (∀ o, isPin o = false → C.pin o = none) → (∀ o, isPin o = true → C.pin o = some (uf o, ub o)) → C.full → aCode P C c ⟨n, zipT 0 (ts uf), ob0⟩ (FinE P res post)) : SoundAt P f ts ob0 post := by
  refine ⟨hen, fun uf ub C w gh us hw hpin hpin2 hfull hus hR => ?_⟩
  have hnt := hnt uf
  have hrep : Rep P C No ⟨n, zipT 0 (ts uf), ob0⟩ { tmps := us ++ Array.replicate (fn.ntmps - us.size) undef, defers := [] } w gh := {
      obs := hR.obs, dis := hR.dis, sS := hR.sS, nS := hR.nS, wrR := hR.wrR, wrB := hR.wrB, wrC := hR.wrC, kept := hR.kept, pins := hR.pins
      tms := fun t => by
        have ht := hR.tms t
        have e1 : St.get ⟨n, zipT 0 (ts uf), ob0⟩ t = St.get ⟨us.size, zipT 0 (ts uf), ob0⟩ t := rfl
        rw [e1]
        by_cases hlt : t < us.size
        · have e2 : (us ++ Array.replicate (fn.ntmps - us.size) undef).getD t undef = us.getD t undef := by
            rw [Array.getD_eq_getD_getElem?, Array.getD_eq_getD_getElem?, Array.getElem?_append_left hlt]
          simp only [e2]; exact ht
        · have e3 : St.get ⟨us.size, zipT 0 (ts uf), ob0⟩ t = .dead := by
            unfold St.get; simp only [look_zipT, Nat.zero_le, if_true, Nat.sub_zero]
            rw [List.getElem?_eq_none (by omega)]; rfl
          rw [e3]; exact .dead
      nt := by simp only [Array.size_append, Array.size_replicate]; omega
      dfs := rfl
      xl := hR.xl, xS := hR.xS, xF := hR.xF, xW := hR.xW, s0S := hR.s0S, sZ := hR.sZ }
  refine calls_of_wp hf hb (Code.wp_mono (fun e a' w' hh => ?_) (code_sound hz c (h uf ub C hpin hpin2 hfull) _ w gh hrep))
  obtain ⟨st', gh', hk, hr⟩ := hh
  cases e with
  | normal => exact fin_sound hres hr hk
  | ret => exact fin_sound hres hr hk
  | _ => exact hk.elim

theorem sound_code {f : FuncId} {fn : Func} {c : Code} {res : List RR} {n : Nat} {as : List Arg} {post : List RV → St → Prop} (hz : Sized P) (hf : P.funcs[f]? = some fn) (hb : fn.body = some c) (hen : entersB P f = true) (hres : fn.results.toList = res.map RR.var)
    (hn : fn.ntmps = n) (hnt : (argsV 0 as).length ≤ n) (h : ∀ C, (∀ o, isPin o = false → C.pin o = none) → C.full → aCode P C c ⟨n, zipT 0 (argsV 0 as), argsOb 0 as⟩ (FinE P res post)) : Sound P f as post :=
  sound_of_code hz hf hb hen hres hn (fun _ => hnt) (fun _ _ C h1 _ h3 => h C h1 h3)
end
end Go.Proofs.YtaodmogcjpainaaDoor.AW
