/- What is known of the arguments of FnExactBitsAt as they come in: numbers of 64 bits, rows and texts within the reach. No condition beyond the row's own. -/
import Derived.Test.YtlldadbgeomnnaaPFnExactBitsAtx2
import Derived.Test.YtlldadbgeomnnaaOpen
import Derived.KernelRfl
namespace Go.Proofs.Ytlldadbgeomnnaa.OkFnExactBitsAt
open Go.RowKit Go.Proofs.Ytlldadbgeomnnaa.PFnExactBitsAt Go.Proofs.YtlldadbgeomnnaaW.PrintWords Go.Proofs.YtlldadbgeomnnaaW.PrintLast Go.Proofs.Ytlldadbgeomnnaa.Open
def Ok63 (x : S63) : Prop := (fun s => s.size ≤ 140737488351232) x.f0 ∧ (fun n => (Lit.int .i64 n).wf = true) x.f1
theorem o63 : Opens Try.prog 63 k63 Ok63 := by
  have h := opens_struct (t := 63) Try.underlying63 (by kernel_rfl) (opensF_cons rfl (opens_string Try.underlying9 (by kernel_rfl)) (opensF_one rfl (opens_int (k := .i64) Try.underlying3 (by kernel_rfl))))
  exact opens_iso (fun x : S63 => (x.f0, x.f1)) (fun a => ⟨a.1, a.2⟩) (fun _ => rfl) h
def Ok24 (l : List S63) : Prop := l.length * 24 ≤ 140737488351232 ∧ ∀ x ∈ l, Ok63 x
theorem o24 : Opens Try.prog 24 (Kd.slice 63 k63) Ok24 := by
  have h := opens_slice (t := 24) (e := 63) Try.underlying24 (by kernel_rfl) o63
  have hb : Try.prog.bytesOf 63 = 24 := by kernel_rfl
  rw [hb] at h
  exact h
def Pure : Prop := ∀ (y0 : (List S63)) (y1 : ByteArray), Ok24 y0 → (fun s => s.size ≤ 140737488351232) y1 → ∃ k, laws_FnExactBitsAt.f k (y0) (y1) = some true
end Go.Proofs.Ytlldadbgeomnnaa.OkFnExactBitsAt
