/- Calls of functions without code; texts cut at a byte. No condition beyond those named. -/
import Derived.Test.YtaodmogcjpainaaDoorA30
import Derived.Laws.Externs
import Derived.Lib.Bytealg
namespace Go.Proofs.YtaodmogcjpainaaDoor.AW
open Go.RowKit
set_option linter.unusedSimpArgs false
set_option linter.unusedVariables false
section
variable {P : Program} {C : Cx} {st : St} {K : St → Prop} {f : FuncId} {fn : Func}

/-- A function without code, all of whose arguments are known. -/
theorem aCall_nat {e : Array Value → Sem Value} {us : List Value} {r : Value} (hf : P.funcs[f]? = some fn) (hname : (fn.name == "runtime.NumGoroutine") = false) (hb : fn.body.isNone = true) (hn : Extern.findNext fn = none) (he : Extern.find fn = some e)
    (hrun : ∀ w, (e us.toArray).run P w = .ok r w) (h1 : r.oneCell' = true) {vs : List V} {d : Option Nat} (hvs : vs = us.map .sc) (h : ev (b := ⟨K⟩) (setDst st d (.sc r))) : aCallB (b := ⟨K⟩) P C st f vs d := by
  refine Or.inr ⟨by unfold nativeB; rw [hf]; exact hb, fun a w gh ws hr hws hv hd => ?_⟩
  subst hvs
  have ews : ws = us.toArray := by
    have hsz : ws.size = us.length := by simpa using hws
    apply Array.ext (by simpa using hsz)
    intro i h1' h2'
    have hi : i < us.length := by simpa using h2'
    have := (hv i (.sc us[i]) (by simp [hi])).sc_inv
    simpa [Array.getD, h1'] using this
  refine ⟨r, ?_, _, gh, h, hr.dst hd (.sc h1)⟩
  rw [run_callFunc_extern hf hname hb hn he, ews, hrun]; rfl
end

/-- The parts of a text between bytes of one kind. -/
def splitL : List UInt8 → UInt8 → List (List UInt8)
  | [], _ => [[]]
  | b :: l, c => if b == c then [] :: splitL l c else match splitL l c with
    | h :: t => (b :: h) :: t
    | [] => [[b]]

theorem splitL_ne (l : List UInt8) (c : UInt8) : splitL l c ≠ [] := by
  cases l with
  | nil => simp [splitL]
  | cons b l =>
    unfold splitL
    split
    · simp
    · split <;> simp

theorem splitL_none {l : List UInt8} {c : UInt8} (h : Lib.indexByte l c = -1) : splitL l c = [l] := by
  induction l with
  | nil => rfl
  | cons b l ih =>
    unfold Lib.indexByte at h
    by_cases hb : (b == c) = true
    · rw [if_pos hb] at h; cases h
    · rw [if_neg hb] at h
      by_cases hl : (Lib.indexByte l c == -1) = true
      · have := ih (by simpa using hl)
        unfold splitL
        rw [if_neg hb, this]
      · rw [if_neg hl] at h
        have := Lib.indexByte_ge l c
        have hl' : Lib.indexByte l c ≠ -1 := by simpa using hl
        omega

theorem splitL_some {l : List UInt8} {c : UInt8} (h : 0 ≤ Lib.indexByte l c) : (Lib.indexByte l c).toNat < l.length ∧ splitL l c = l.take (Lib.indexByte l c).toNat :: splitL (l.drop ((Lib.indexByte l c).toNat + 1)) c ∧ l.count c = (l.drop ((Lib.indexByte l c).toNat + 1)).count c + 1 := by
  induction l with
  | nil => simp [Lib.indexByte] at h
  | cons b l ih =>
    unfold Lib.indexByte at h ⊢
    by_cases hb : (b == c) = true
    · rw [if_pos hb]
      refine ⟨by simp, ?_, ?_⟩
      · conv => lhs; unfold splitL
        rw [if_pos hb]
        simp
      · simp [List.count_cons, hb]
    · rw [if_neg hb] at h ⊢
      by_cases hl : (Lib.indexByte l c == -1) = true
      · rw [if_pos hl] at h; omega
      · rw [if_neg hl] at h ⊢
        have h0 : 0 ≤ Lib.indexByte l c := by
          have := Lib.indexByte_ge l c
          have hl' : Lib.indexByte l c ≠ -1 := by simpa using hl
          omega
        obtain ⟨h1, h2, h3⟩ := ih h0
        have e : (Lib.indexByte l c + 1).toNat = (Lib.indexByte l c).toNat + 1 := by omega
        rw [e]
        refine ⟨by simpa using h1, ?_, ?_⟩
        · conv => lhs; unfold splitL
          rw [if_neg hb, h2]
          simp
        · simp only [List.count_cons, List.drop_succ_cons]
          rw [h3]; simp [hb]

theorem splitL_length (l : List UInt8) (c : UInt8) : (splitL l c).length = l.count c + 1 := by
  induction l with
  | nil => rfl
  | cons b l ih =>
    unfold splitL
    by_cases hb : (b == c) = true
    · rw [if_pos hb, List.length_cons, ih, List.count_cons]; simp [hb]
    · rw [if_neg hb, List.count_cons]
      have hne := splitL_ne l c
      split
      · rename_i h t e
        rw [e] at ih
        simp [hb]; simpa using ih
      · rename_i e; exact absurd e hne
def bytesS (l : List UInt8) : ByteArray := ⟨l.toArray⟩
theorem bytesS_data (s : ByteArray) : bytesS s.data.toList = s := by
  unfold bytesS; simp
/-- The parts of a text. -/
def splitS (s : ByteArray) (c : UInt8) : List ByteArray := (splitL s.data.toList c).map bytesS
end Go.Proofs.YtaodmogcjpainaaDoor.AW
