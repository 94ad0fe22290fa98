/- Each operation that only reckons and reads comes to what is told of it. No condition. -/
import Derived.Test.YtaodmogcjpainaaDoorA3
import Derived.Laws.BitsLemmas
import Derived.Laws.Small
namespace Go.Proofs.YtaodmogcjpainaaDoor.AW
open Go.RowKit

def isR (P : Program) (t : TypeId) : Option Bool := (P.underlying t).map TypeDesc.isRow
/-- A field's place in its struct. -/
def fo (P : Program) (s f : Nat) : Option Nat := match P.underlying s with
  | some (.struct fs) => match fs[f]? with
    | some fd => if 0 < szT P fd.type then some fd.offset else none
    | none => none
  | _ => none
def elT (P : Program) (t : TypeId) : Option TypeId := if t < P.types.size then (match P.underlying t with
  | some (.slice e) => some e
  | _ => none) else none

def tab (f : Nat → V) : Nat → Nat → List V
  | _, 0 => []
  | k, n + 1 => f k :: tab f (k + 1) n
def allSome (f : Nat → Option V) : Nat → Nat → Prop
  | _, 0 => True
  | k, n + 1 => (f k).isSome = true ∧ allSome f (k + 1) n

def boolB (op : BinOp) (a b : Bool) : Option Bool := match op with
  | .eql => some (a == b)
  | .neq => some (a != b)
  | _ => none

def strV (op : BinOp) (a b : ByteArray) : Prop × V := match op with
  | .add => (a.size + b.size ≤ 9223372036854775807, .sc (.string (a ++ b)))
  | .eql => (True, .sc (.bool (a.toList == b.toList)))
  | .neq => (True, .sc (.bool (!(a.toList == b.toList))))
  | .lss => (True, .sc (.bool (Op.bytesLess a.toList b.toList)))
  | .leq => (True, .sc (.bool (Op.bytesLess a.toList b.toList || a.toList == b.toList)))
  | .gtr => (True, .sc (.bool (!(Op.bytesLess a.toList b.toList || a.toList == b.toList))))
  | .geq => (True, .sc (.bool (!Op.bytesLess a.toList b.toList)))
  | _ => (False, .dead)

def intV (op : BinOp) (k : IntKind) (a b : Int) : Prop × V := match op with
  | .add => (True, .sc (.int k (k.wrap (a + b))))
  | .sub => (True, .sc (.int k (k.wrap (a - b))))
  | .mul => (True, .sc (.int k (k.wrap (a * b))))
  | .quo => (b ≠ 0, .sc (.int k (k.wrap (a.tdiv b))))
  | .rem => (b ≠ 0, .sc (.int k (a.tmod b)))
  | .and => (True, .sc (.int k (bits .and k a b)))
  | .or => (True, .sc (.int k (bits .or k a b)))
  | .xor => (True, .sc (.int k (bits .xor k a b)))
  | .andNot => (True, .sc (.int k (bits .andNot k a b)))
  | .eql => (True, .sc (.bool (a == b)))
  | .neq => (True, .sc (.bool (a != b)))
  | .lss => (True, .sc (.bool (decide (a < b))))
  | .leq => (True, .sc (.bool (decide (a ≤ b))))
  | .gtr => (True, .sc (.bool (decide (b < a))))
  | .geq => (True, .sc (.bool (decide (b ≤ a))))
  | _ => (False, .dead)

def isSh : BinOp → Bool
  | .shl | .shr => true
  | _ => false

def binV (P : Program) (op : BinOp) (t : TypeId) (x y : V) : Prop × V := match x, y with
  | .sc (.int k a), .sc (.int k' b) =>
    if isSh op then (match op with
      | .shl => (0 ≤ b, .sc (.int k (k.wrap (a * 2 ^ min b.toNat k.bits))))
      | .shr => (0 ≤ b, .sc (.int k (a.fdiv (2 ^ min b.toNat k.bits))))
      | _ => (False, .dead))
    else (k = k' ∧ (intV op k a b).1, (intV op k a b).2)
  | .sc (.string a), .sc (.string b) => strV op a b
  | .sc (.bool a), .sc (.bool b) => match boolB op a b with
    | some r => (P.underlying t = some .bool, .sc (.bool r))
    | none => (False, .dead)
  | _, _ => (False, .dead)

def unV (op : UnOp) (x : V) : Prop × V := match op, x with
  | .not, .sc (.bool b) => (True, .sc (.bool (!b)))
  | .neg, .sc (.int k n) => (True, .sc (.int k (k.wrap (0 - n))))
  | _, _ => (False, .dead)

def nilV : V → Prop × V
  | .bp o j => (True, .bp o j)
  | .rp o p i j => (True, .rp o p i j)
  | .ip ch j => (True, .ip ch j)
  | _ => (False, .dead)

def fieldAddrV (P : Program) (s f : Nat) (x : V) : Prop × V := match fo P s f with
  | none => (False, .dead)
  | some off => match x with
    | .bp o j => (True, .bp o (j + off))
    | .rp o p i j => (True, .rp o p i (j + off))
    | .ip ch j => (True, .ip ch (j + off))
    | _ => (False, .dead)

def pickV (c a b : V) : Prop × V := match c with
  | .sc (.bool t) => match a, b with
    | .sc (.bool x), .sc (.bool y) => (True, .sc (.bool (bif t then x else y)))
    | .sc (.bool x), .cond c' (.sc (.bool y)) => (t = false → c' = true, .sc (.bool (bif t then x else y)))
    | .cond c' (.sc (.bool x)), .sc (.bool y) => (t = true → c' = true, .sc (.bool (bif t then x else y)))
    | .sc (.bool x), _ => (t = true, .sc (.bool x))
    | _, .sc (.bool y) => (t = false, .sc (.bool y))
    | _, _ => (False, .dead)
  | _ => (False, .dead)

def loadV (P : Program) (st : St) (t : TypeId) (x : V) : Prop × V := match isR P t with
  | some true => (allSome (rdD st x) 0 (szT P t) ∧ 0 < szT P t, .agg (tab (fun q => (rdD st x q).getD .dead) 0 (szT P t)))
  | some false => ((rdD st x 0).isSome = true, (rdD st x 0).getD .dead)
  | none => (False, .dead)

/-- The row that a slot has: its elements' type, itself, how many of it. -/
def rowOf (st : St) : V → Option (TypeId × List (List D) × Nat)
  | .imm e es => some (e, es, es.length)
  | .nil e => some (e, [], 0)
  | .ref o p n => match (look st.ob o).bind (subO · p) with
    | some (.row false e es) => some (e, es, n)
    | _ => none
  | _ => none

def indexAddrV (P : Program) (st : St) (t : TypeId) (x ix : V) : Prop × V := match ix with
  | .sc (.int _ i) => match x with
    | .imm e es => (elT P t = some e ∧ 0 ≤ i ∧ i < es.length, .ip (es.getD i.toNat []) 0)
    | .ref o p n => match (look st.ob o).bind (subO · p) with
      | some (.row false e _) => (elT P t = some e ∧ 0 ≤ i ∧ i < n, .rp o p i.toNat 0)
      | _ => (False, .dead)
    | _ => (False, .dead)
  | _ => (False, .dead)

def lenV (P : Program) (t : TypeId) (x : V) : Prop × V := match x with
  | .sc (.string s) => (P.underlying t = some .string, .sc (.int .i64 s.size))
  | .imm _ es => ((elT P t).isSome = true, .sc (.int .i64 es.length))
  | .nil _ => ((elT P t).isSome = true, .sc (.int .i64 0))
  | .sc (.slice _ n _) => ((elT P t).isSome = true, .sc (.int .i64 n))
  | .ref _ _ n => ((elT P t).isSome = true, .sc (.int .i64 n))
  | _ => (False, .dead)

def minV (lo : Bool) (x y : V) : Prop × V := match x, y with
  | .sc (.int k a), .sc (.int _ b) => (True, .sc (.int k (if lo then (if b < a then b else a) else (if b > a then b else a))))
  | _, _ => (False, .dead)

def indexV (P : Program) (t : TypeId) (x ix : V) : Prop × V := match x, ix with
  | .sc (.string s), .sc (.int _ i) => (P.underlying t = some .string ∧ 0 ≤ i ∧ i < s.size, .sc (.int .u8 ((s.data.toList.getD i.toNat 0).toNat)))
  | _, _ => (False, .dead)

def convV (P : Program) (src dst : TypeId) (x : V) : Prop × V := match x with
  | .sc (.int _ n) => match P.underlying dst with
    | some (.int k) => ((P.underlying src).isSome = true, .sc (.int k (k.wrap n)))
    | _ => (False, .dead)
  | .sc (.string s) => match P.underlying src, P.underlying dst with
    | some .string, some .string => (True, .sc (.string s))
    | _, _ => (False, .dead)
  | _ => (False, .dead)

def extractV (i : Nat) : V → Prop × V
  | .tup vs => (i < vs.length, vs.getD i .dead)
  | _ => (False, .dead)

def oneV : V → Bool
  | .sc v => v.oneCell'
  | .nil _ | .imm .. | .ref .. | .bp .. | .rp .. | .ip .. => true
  | _ => false

def fieldV (P : Program) (s f : Nat) (x : V) : Prop × V := match P.underlying s with
  | some (.struct fs) => match fs[f]? with
    | some fd => match x with
      | .agg vs => match isR P fd.type with
        | some false => (fd.offset < vs.length, vs.getD fd.offset .dead)
        | _ => (False, .dead)
      | _ => (False, .dead)
    | none => (False, .dead)
  | _ => (False, .dead)

def convQ : V → Bool
  | .ref _ _ _ => true
  | _ => false

/-- What comes of an operation that only reckons and reads: what it asks; what it comes to. -/
def aPure (P : Program) (o : Oper) (st : St) : Option (Prop × V) := match o.op with
  | .move x => some ((st.ev x).ok, (st.ev x).str)
  | .pick c a b => some ((st.ev c).ok ∧ (pickV (st.ev c).str (st.ev a) (st.ev b)).1, (pickV (st.ev c).str (st.ev a) (st.ev b)).2)
  | .load t x => some ((st.ev x).ok ∧ (loadV P st t (st.ev x).str).1, (loadV P st t (st.ev x).str).2)
  | .nilCheck x => some ((st.ev x).ok ∧ (nilV (st.ev x).str).1, (nilV (st.ev x).str).2)
  | .binOp op t x y _ => some ((st.ev x).ok ∧ (st.ev y).ok ∧ (binV P op t (st.ev x).str (st.ev y).str).1, (binV P op t (st.ev x).str (st.ev y).str).2)
  | .unOp op _ x => some ((st.ev x).ok ∧ (unV op (st.ev x).str).1, (unV op (st.ev x).str).2)
  | .convert s t x => if convQ (st.ev x).str then none else some ((st.ev x).ok ∧ (convV P s t (st.ev x).str).1, (convV P s t (st.ev x).str).2)
  | .fieldAddr s x f => some ((st.ev x).ok ∧ (fieldAddrV P s f (st.ev x).str).1, (fieldAddrV P s f (st.ev x).str).2)
  | .field s x f => some ((st.ev x).ok ∧ (fieldV P s f (st.ev x).str).1, (fieldV P s f (st.ev x).str).2)
  | .indexAddr t x y => some ((st.ev x).ok ∧ (st.ev y).ok ∧ (indexAddrV P st t (st.ev x).str (st.ev y).str).1, (indexAddrV P st t (st.ev x).str (st.ev y).str).2)
  | .index t x y => some ((st.ev x).ok ∧ (st.ev y).ok ∧ (indexV P t (st.ev x).str (st.ev y).str).1, (indexV P t (st.ev x).str (st.ev y).str).2)
  | .extract x i => some ((st.ev x).ok ∧ (extractV i (st.ev x).str).1, (extractV i (st.ev x).str).2)
  | .call c => match c.callee with
    | .builtin .len => match c.args.toList, c.argTypes.toList with
      | [x], t :: _ => some ((st.ev x).ok ∧ (lenV P t (st.ev x).str).1, (lenV P t (st.ev x).str).2)
      | _, _ => none
    | .builtin .min => match c.args.toList with
      | [x, y] => some ((st.ev x).ok ∧ (st.ev y).ok ∧ (minV true (st.ev x).str (st.ev y).str).1, (minV true (st.ev x).str (st.ev y).str).2)
      | _ => none
    | .builtin .max => match c.args.toList with
      | [x, y] => some ((st.ev x).ok ∧ (st.ev y).ok ∧ (minV false (st.ev x).str (st.ev y).str).1, (minV false (st.ev x).str (st.ev y).str).2)
      | _ => none
    | _ => none
  | _ => none

section
variable {P : Program} {w w1 : World} {C : Cx} {X : Nat → Prop} {gh : Gh} {st : St} {a : Act} {v : V} {u : Value} {ob : List (Nat × Ob)}

theorem run_loadVar_one (w : World) (ad : Addr) (t : TypeId) (y : Value) (d : TypeDesc) (hu : P.underlying t = some d) (hd : d.isRow = false) (hc : w.cell? ad = some y) : (loadVar t ad).run P w = .ok y w := by
  have hagg : (isAgg t).run P w = .ok false w := by
    unfold isAgg
    rw [Sem.run_bind, run_underlying hu w]
    cases d <;> simp_all
  simp [loadVar, Sem.run_bind, hagg, hc]

theorem tab_length (f : Nat → V) (k n : Nat) : (tab f k n).length = n := by
  induction n generalizing k with
  | zero => rfl
  | succ n ih => simp [tab, ih]
theorem tab_get (f : Nat → V) (k n i : Nat) (h : i < n) : (tab f k n)[i]? = some (f (k + i)) := by
  induction n generalizing k i with
  | zero => omega
  | succ n ih =>
    cases i with
    | zero => simp [tab]
    | succ i => simp only [tab, List.getElem?_cons_succ]; rw [ih (k + 1) i (by omega)]; congr 2; omega
theorem allSome_get {f : Nat → Option V} {k n : Nat} (h : allSome f k n) (i : Nat) (hi : i < n) : (f (k + i)).isSome = true := by
  induction n generalizing k i with
  | zero => omega
  | succ n ih =>
    cases i with
    | zero => exact h.1
    | succ i => have := ih h.2 i (by omega); rwa [show k + 1 + i = k + (i + 1) by omega] at this

theorem load_sound (h : Rep P C X st a w gh) {t : TypeId} {pv : V} {u : Value} (hp : VR P w gh st.ob pv u) (hs : (loadV P st t pv).1) :
    ∃ y, (Instr.loadAt t u).run P w = .ok y w ∧ VR P w gh st.ob (loadV P st t pv).2 y := by
  unfold loadV at hs ⊢
  cases hr : isR P t with
  | none => simp [hr] at hs
  | some b =>
    simp only [hr] at hs ⊢
    obtain ⟨d, hu, hd⟩ := Option.map_eq_some_iff.1 hr
    cases b with
    | false =>
      simp only at hs ⊢
      obtain ⟨x, hx⟩ := Option.isSome_iff_exists.1 hs
      obtain ⟨b, f, y, rfl, hc, hv, _⟩ := h.rd hp hx
      refine ⟨y, ?_, by rw [hx]; exact hv⟩
      simp only [Instr.loadAt, Instr.sureAddr, Sem.run_bind, Sem.run_pure, Result.andThen_ok]
      exact run_loadVar_one w _ t y d hu hd hc
    | true =>
      simp only at hs ⊢
      obtain ⟨hs, hpos⟩ := hs
      have step : ∀ q, q < szT P t → ∃ b f y, u = .pointer (some ⟨b, f, none⟩) ∧ w.cell? ⟨b, f + q, none⟩ = some y ∧ VR P w gh st.ob ((rdD st pv q).getD .dead) y ∧ y.oneCell' = true := by
        intro q hq
        have := allSome_get hs q hq
        rw [Nat.zero_add] at this
        obtain ⟨x, hx⟩ := Option.isSome_iff_exists.1 this
        rw [hx]
        exact h.rd hp hx
      obtain ⟨b, f, _, rfl, _⟩ := step 0 hpos
      have step2 : ∀ q, q < szT P t → ∃ y, w.cell? ⟨b, f + q, none⟩ = some y ∧ VR P w gh st.ob ((rdD st pv q).getD .dead) y ∧ y.oneCell' = true := by
        intro q hq
        obtain ⟨b', f', y, e, h1, h2⟩ := step q hq
        cases e
        exact ⟨y, h1, h2⟩
      obtain ⟨ys, hl, hys⟩ : ∃ ys : List Value, ys.length = szT P t ∧ ∀ q, q < szT P t → w.cell? ⟨b, f + q, none⟩ = ys[q]? ∧ VR P w gh st.ob ((rdD st pv q).getD .dead) (ys.getD q undef) ∧ (ys.getD q undef).oneCell' = true := by
        refine ⟨(List.range (szT P t)).map fun q => (w.cell? ⟨b, f + q, none⟩).getD undef, by simp, fun q hq => ?_⟩
        obtain ⟨y, h1, h2, h3⟩ := step2 q hq
        have : ((List.range (szT P t)).map fun q => (w.cell? ⟨b, f + q, none⟩).getD undef)[q]? = some y := by simp [hq, h1]
        refine ⟨by rw [this, h1], ?_, ?_⟩ <;> (simp only [List.getD, this, Option.getD_some]; assumption)
      refine ⟨.agg ys.toArray, run_loadAt_mid w b f t ys d (fun j v hv => ?_) hu hd ?_, .agg (by simp [tab_length, hl]) (fun u hu => ?_) (fun i v hv => ?_)⟩
      · have hj : j < szT P t := by rw [← hl]; exact (List.getElem?_eq_some_iff.1 hv).1
        rw [(hys j hj).1, hv]
      · unfold szT at hl hpos
        cases hq : P.info? t with
        | none => simp [hq] at hpos
        | some i => simp [hq] at hl ⊢; omega
      · obtain ⟨i, hi, rfl⟩ := List.getElem_of_mem (by simpa using hu : u ∈ ys)
        have := (hys i (by omega)).2.2
        simpa [List.getD, List.getElem?_eq_getElem hi] using this
      · have hi : i < szT P t := by
          have := (List.getElem?_eq_some_iff.1 hv).1
          rwa [tab_length] at this
        rw [tab_get _ _ _ _ hi, Nat.zero_add] at hv
        cases hv
        have := (hys i hi).2.1
        simpa [Array.getD, List.getD, hl, hi] using this
end
end Go.Proofs.YtaodmogcjpainaaDoor.AW
