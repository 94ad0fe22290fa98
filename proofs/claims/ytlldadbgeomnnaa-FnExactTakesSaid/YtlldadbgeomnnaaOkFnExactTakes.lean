/- What is known of the arguments of FnExactTakes as they come in: numbers of 64 bits, rows and texts within the reach. No condition beyond the row's own. -/
import Derived.Test.YtlldadbgeomnnaaPFnExactTakesx3
import Derived.Test.YtlldadbgeomnnaaOpen
import Derived.KernelRfl
namespace Go.Proofs.Ytlldadbgeomnnaa.OkFnExactTakes
open Go.RowKit Go.Proofs.Ytlldadbgeomnnaa.PFnExactTakes Go.Proofs.YtlldadbgeomnnaaW.PrintWords Go.Proofs.YtlldadbgeomnnaaW.PrintLast Go.Proofs.Ytlldadbgeomnnaa.Open
def Ok31 (l : List Int) : Prop := l.length * 8 ≤ 140737488351232 ∧ ∀ x ∈ l, (fun n => (Lit.int .i64 n).wf = true) x
theorem o31 : Opens Try.prog 31 (Kd.slice 3 (Kd.int .i64)) Ok31 := by
  have h := opens_slice (t := 31) (e := 3) Try.underlying31 (by kernel_rfl) (opens_int (k := .i64) Try.underlying3 (by kernel_rfl))
  have hb : Try.prog.bytesOf 3 = 8 := by kernel_rfl
  rw [hb] at h
  exact h
structure S33 where
  f0 : Int
  f1 : Int
  f2 : Int
  f3 : Int
  f4 : Int
  f5 : ByteArray
  f6 : (List Int)
def k33 : Kd S33 := Kd.iso (Kd.pair (Kd.int .i64) (Kd.pair (Kd.int .i64) (Kd.pair (Kd.int .i64) (Kd.pair (Kd.int .i64) (Kd.pair (Kd.int .i64) (Kd.pair Kd.string (Kd.slice 3 (Kd.int .i64)))))))) (fun x : S33 => (x.f0, x.f1, x.f2, x.f3, x.f4, x.f5, x.f6))
theorem k33_open {w : World} {x : S33} {cs : List Value} (h : k33.K w x cs) : ∃ A6 c6, cs = [.int .i64 x.f0, .int .i64 x.f1, .int .i64 x.f2, .int .i64 x.f3, .int .i64 x.f4, .string x.f5, .slice A6 x.f6.length c6] ∧ x.f6.length ≤ c6 ∧ ((Kd.int .i64)).C w A6 x.f6.length x.f6 := by
  obtain ⟨_, _, rfl, rfl, ⟨_, _, rfl, rfl, ⟨_, _, rfl, rfl, ⟨_, _, rfl, rfl, ⟨_, _, rfl, rfl, ⟨_, _, rfl, rfl, ⟨A6, c6, rfl, l6, g6⟩⟩⟩⟩⟩⟩⟩ := h
  exact ⟨A6, c6, rfl, l6, g6⟩
def Ok33 (x : S33) : Prop := (fun n => (Lit.int .i64 n).wf = true) x.f0 ∧ (fun n => (Lit.int .i64 n).wf = true) x.f1 ∧ (fun n => (Lit.int .i64 n).wf = true) x.f2 ∧ (fun n => (Lit.int .i64 n).wf = true) x.f3 ∧ (fun n => (Lit.int .i64 n).wf = true) x.f4 ∧ (fun s => s.size ≤ 140737488351232) x.f5 ∧ Ok31 x.f6
theorem o33 : Opens Try.prog 33 k33 Ok33 := by
  have h := opens_struct (t := 33) Try.underlying33 (by kernel_rfl) (opensF_cons rfl (opens_int (k := .i64) Try.underlying3 (by kernel_rfl)) (opensF_cons rfl (opens_int (k := .i64) Try.underlying3 (by kernel_rfl)) (opensF_cons rfl (opens_int (k := .i64) Try.underlying3 (by kernel_rfl)) (opensF_cons rfl (opens_int (k := .i64) Try.underlying3 (by kernel_rfl)) (opensF_cons rfl (opens_int (k := .i64) Try.underlying3 (by kernel_rfl)) (opensF_cons rfl (opens_string Try.underlying9 (by kernel_rfl)) (opensF_one rfl o31)))))))
  exact opens_iso (fun x : S33 => (x.f0, x.f1, x.f2, x.f3, x.f4, x.f5, x.f6)) (fun a => ⟨a.1, a.2.1, a.2.2.1, a.2.2.2.1, a.2.2.2.2.1, a.2.2.2.2.2.1, a.2.2.2.2.2.2⟩) (fun _ => rfl) h
def Pure : Prop := ∀ (y0 : S33) (y1 : Bool), Ok33 y0 → (fun _ => True) y1 → ∃ k, laws_FnExactTakes.f k (y0.f0) (y0.f1) (y0.f2) (y0.f3) (y0.f4) (y0.f5) (y0.f6) (y1) = some true
end Go.Proofs.Ytlldadbgeomnnaa.OkFnExactTakes
