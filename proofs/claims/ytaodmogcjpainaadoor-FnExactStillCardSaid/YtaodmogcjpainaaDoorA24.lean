/- Small facts for what is reckoned. No condition. -/
import Derived.Test.YtaodmogcjpainaaDoorA23
namespace Go.Proofs.YtaodmogcjpainaaDoor.AW
open Go.RowKit
set_option linter.unusedSimpArgs false
set_option linter.unusedVariables false

def sizedB (P : Program) : Bool := (List.range P.types.size).all fun t => match elT P t with
  | some e => decide (0 < szT P e)
  | none => true

theorem sized_of {P : Program} (h : sizedB P = true) : Sized P := fun t e he => by
  have hlt : t < P.types.size := by
    unfold elT at he
    split at he
    · assumption
    · cases he
  have := List.all_eq_true.1 h t (List.mem_range.2 hlt)
  rw [he] at this
  simpa using this

theorem w64 {x : Int} (h0 : -9223372036854775808 ≤ x) (h1 : x < 9223372036854775808) : IntKind.i64.wrap x = x := by
  unfold IntKind.wrap
  simp [IntKind.bits, IntKind.signed]
  omega
theorem w64s {i n : Nat} (h : i < n) (hn : n ≤ 9223372036854775807) : IntKind.i64.wrap ((i : Int) + 1) = ((i + 1 : Nat) : Int) := by
  rw [w64 (by omega) (by omega)]; omega

/-- Numbers. -/
def cI (n : Int) : D := .sc (.int .i64 n)
def cS (s : ByteArray) : D := .sc (.string s)
def cB (b : Bool) : D := .sc (.bool b)
def vI (n : Int) : V := .sc (.int .i64 n)
def vS (s : ByteArray) : V := .sc (.string s)
def vB (b : Bool) : V := .sc (.bool b)

/-- Rows whose elements have one cell. -/
def row1 {α : Type} (f : α → D) (l : List α) : List (List D) := l.map fun x => [f x]
theorem row1_length {α : Type} (f : α → D) (l : List α) : (row1 f l).length = l.length := by simp [row1]
theorem row1_get {α : Type} (f : α → D) (l : List α) {i : Nat} (h : i < l.length) : (row1 f l).getD i [] = [f l[i]] := by simp [row1, List.getD, h]
theorem row1_getq {α : Type} (f : α → D) (l : List α) {i : Nat} (h : i < l.length) : (row1 f l)[i]? = some [f l[i]] := by simp [row1, h]
theorem row1_snoc {α : Type} (f : α → D) (l : List α) (x : α) : row1 f l ++ [[f x]] = row1 f (l ++ [x]) := by simp [row1]
theorem row1_set {α : Type} (f : α → D) (l : List α) (i : Nat) (x : α) : (row1 f l).set i [f x] = row1 f (l.set i x) := by simp [row1, List.map_set]
theorem row1_take {α : Type} (f : α → D) (l : List α) (n : Nat) : (row1 f l).take n = row1 f (l.take n) := by simp [row1, List.map_take]
theorem row1_drop {α : Type} (f : α → D) (l : List α) (n : Nat) : (row1 f l).drop n = row1 f (l.drop n) := by simp [row1, List.map_drop]
theorem row1_takeL {α : Type} (f : α → D) (l : List α) : (row1 f l).take l.length = row1 f l := by rw [← row1_length f l, List.take_length]
theorem row1_inj {l l' : List Int} (h : row1 cI l = row1 cI l') : l = l' := by
  induction l generalizing l' with
  | nil => cases l' <;> simp_all [row1]
  | cons x r ih => cases l' with
    | nil => simp [row1] at h
    | cons y r' => simp only [row1, List.map_cons, List.cons.injEq, cI, D.sc.injEq, Value.int.injEq, and_true, true_and] at h; rw [h.1, ih h.2]
theorem row1_sh {α : Type} {f : α → D} (hf : ∀ x, shD (f x) = f x) (l : List α) : shLL (row1 f l) = row1 f l := by
  rw [shLL_map]; simp [row1, shL, hf]
theorem ints_sh (l : List Int) : shLL (row1 cI l) = row1 cI l := row1_sh (fun _ => rfl) l
theorem strs_sh (l : List ByteArray) : shLL (row1 cS l) = row1 cS l := row1_sh (fun _ => rfl) l
theorem bools_sh (l : List Bool) : shLL (row1 cB l) = row1 cB l := row1_sh (fun _ => rfl) l
theorem row1_noSh {α : Type} {f : α → D} (hf : ∀ x, noSh (f x) = true) (l : List α) : noShLL (row1 f l) = true := by
  induction l with
  | nil => rfl
  | cons x r ih => simp only [row1, List.map_cons, noShLL, noShL, hf, Bool.and_self, Bool.true_and]; exact ih
theorem ints_noSh (l : List Int) : noShLL (row1 cI l) = true := row1_noSh (fun _ => rfl) l
theorem strs_noSh (l : List ByteArray) : noShLL (row1 cS l) = true := row1_noSh (fun _ => rfl) l
theorem bools_noSh (l : List Bool) : noShLL (row1 cB l) = true := row1_noSh (fun _ => rfl) l
theorem row1_rep {α : Type} (f : α → D) (n : Nat) (x : α) : List.replicate n [f x] = row1 f (List.replicate n x) := by simp [row1]
theorem row1_free {α : Type} {f : α → D} (hf : ∀ x, freeD (f x) = true) (l : List α) : (row1 f l).all (·.all freeD) = true := by
  simp [row1, hf]

theorem pin3 {C : Cx} (hpin : ∀ o, isPin o = false → C.pin o = none) : ∀ n, 3000 ≤ n → C.pin n = none := fun n hn => hpin n (by simp [isPin]; omega)

/-- A call whose results are known. -/
theorem aCall_det3 {P : Program} {C : Cx} {st : St} {K : St → Prop} {f : FuncId} {as : List Arg} {R : List RV} (hs : Sound P f as (fun rs _ => rs = R)) (hpin : ∀ n, 3000 ≤ n → C.pin n = none) {vs : List V} {d : Option Nat}
    (h : (takeM st vs as).1 ∧ lendAll ⟨[], fun _ => undef, pvOf C, (takeM st vs as).2.ob, argsOb 0 as⟩ vs as ∧ noShR R = true ∧ ev (b := ⟨K⟩) (after (takeM st vs as).2 d R)) : aCallB (b := ⟨K⟩) P C st f vs d :=
  aCall_of_sound hs hpin h.1 h.2.1 (fun rs _ hr => by rw [hr]; exact h.2.2.1) (fun rs _ hr => by rw [hr]; exact h.2.2.2)

theorem aCall_det {P : Program} {C : Cx} {st : St} {K : St → Prop} {f : FuncId} {as : List Arg} {R : List RV} (hs : Sound P f as (fun rs _ => rs = R)) (hpin : ∀ o, isPin o = false → C.pin o = none) {vs : List V} {d : Option Nat}
    (h : (takeM st vs as).1 ∧ lendAll ⟨[], fun _ => undef, pvOf C, (takeM st vs as).2.ob, argsOb 0 as⟩ vs as ∧ noShR R = true ∧ ev (b := ⟨K⟩) (after (takeM st vs as).2 d R)) : aCallB (b := ⟨K⟩) P C st f vs d :=
  aCall_det3 hs (pin3 hpin) h

/-- The callee's rows as they are now. -/
def nowIs (ob : List (Nat × Ob)) : List (Nat × Ob) → Prop
  | [] => True
  | (k, x) :: r => look ob k = some x ∧ nowIs ob r

theorem nowIs_get {ob : List (Nat × Ob)} : ∀ {N : List (Nat × Ob)}, nowIs ob N → ∀ k x, look N k = some x → look ob k = some x
  | [], _, k, x, h => by simp [look] at h
  | (k', x') :: r, h, k, x, hx => by
    simp only [look] at hx
    by_cases e : k = k'
    · rw [if_pos e] at hx; cases hx; rw [e]; exact h.1
    · rw [if_neg e] at hx; exact nowIs_get h.2 k x hx

theorem newObs_now {ob N : List (Nat × Ob)} (hN : ∀ k x, look N k = some x → look ob k = some x) : ∀ (M : List (Nat × Nat)) {iob : List (Nat × Ob)}, ioLong iob N M → newObs ob M = newObs N M ∧ ioLong iob ob M
  | [], _, _ => ⟨rfl, trivial⟩
  | (k, o) :: r, iob, h => by
    obtain ⟨h1, h2⟩ := h
    obtain ⟨g1, g2⟩ := newObs_now hN r h2
    split at h1
    · rename_i e es e' es' hi hn
      have := hN _ _ hn
      refine ⟨by simp only [newObs, this, hn, g1], ?_, g2⟩
      simp only [hi, this]; exact h1
    · exact h1.elim

def nodupB (l : List Nat) : Bool := match l with
  | [] => true
  | x :: r => !r.contains x && nodupB r
theorem nodup_of {l : List Nat} (h : nodupB l = true) : l.Nodup := by
  induction l with
  | nil => exact List.nodup_nil
  | cons x r ih =>
    simp only [nodupB, Bool.and_eq_true, Bool.not_eq_true'] at h
    exact List.nodup_cons.2 ⟨by simpa using h.1, ih h.2⟩

def roAllF (as : (Nat → Value) → List Arg) : Prop := ∀ uf, roAll (as uf) = true

/-- A call that writes into rows of the caller's, and whose results are known. -/
theorem aCall_iod3 {P : Program} {C : Cx} {st : St} {K : St → Prop} {f : FuncId} {as : (Nat → Value) → List Arg} {iob N : List (Nat × Ob)} {R : List RV} (hs : SoundAt P f (fun uf => argsV 0 (as uf)) iob (fun rs st => rs = R ∧ nowIs st.ob N)) (hpin : ∀ n, 3000 ≤ n → C.pin n = none)
    (M : List (Nat × Nat)) {vs : List V} {d : Option Nat} (hM : nodupB (M.map (·.1)) = true ∧ nodupB (M.map (·.2)) = true ∧ iob.map (·.1) = M.map (·.1)) (hro : ∀ uf, roAll (as uf) = true ∧ vs.length = (as uf).length)
    (hl : ∀ uf, lendAll ⟨M, uf, pvOf C, dropI (M.map (·.2)) st.ob, iob⟩ vs (as uf))
    (h : ioOk st iob M ∧ noShR R = true ∧ ioLong iob N M ∧ ev (b := ⟨K⟩) (after (st.wrote M N) d R)) : aCallB (b := ⟨K⟩) P C st f vs d := by
  refine aCall_io hs hpin M (fun uf => (hro uf).1) (fun uf => (hro uf).2) h.1 (nodup_of hM.1) (nodup_of hM.2.1) hM.2.2 hl (fun rs st' hr => ?_) (fun rs st' hr => ?_)
  · rw [hr.1]; exact ⟨h.2.1, (newObs_now (nowIs_get hr.2) M h.2.2.1).2⟩
  · have e : st.wrote M st'.ob = st.wrote M N := by unfold St.wrote; rw [(newObs_now (nowIs_get hr.2) M h.2.2.1).1]
    rw [hr.1, e]; exact h.2.2.2
theorem aCall_iod {P : Program} {C : Cx} {st : St} {K : St → Prop} {f : FuncId} {as : (Nat → Value) → List Arg} {iob N : List (Nat × Ob)} {R : List RV} (hs : SoundAt P f (fun uf => argsV 0 (as uf)) iob (fun rs st => rs = R ∧ nowIs st.ob N)) (hpin : ∀ o, isPin o = false → C.pin o = none)
    (M : List (Nat × Nat)) {vs : List V} {d : Option Nat} (hM : nodupB (M.map (·.1)) = true ∧ nodupB (M.map (·.2)) = true ∧ iob.map (·.1) = M.map (·.1)) (hro : ∀ uf, roAll (as uf) = true ∧ vs.length = (as uf).length)
    (hl : ∀ uf, lendAll ⟨M, uf, pvOf C, dropI (M.map (·.2)) st.ob, iob⟩ vs (as uf))
    (h : ioOk st iob M ∧ noShR R = true ∧ ioLong iob N M ∧ ev (b := ⟨K⟩) (after (st.wrote M N) d R)) : aCallB (b := ⟨K⟩) P C st f vs d :=
  aCall_iod3 hs (pin3 hpin) M hM hro hl h
end Go.Proofs.YtaodmogcjpainaaDoor.AW
