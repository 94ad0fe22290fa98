/- ModeOf of the program and of the reference tell the same mode for all bits and kinds. Conditions: both are whole numbers of 64 bits. -/
import Derived.Test.YtlldadbgeomnnaaPFnExactModeOfx1
namespace Go.Proofs.Ytlldadbgeomnnaa.Pure
open Go.RowKit Go.Proofs.Ytlldadbgeomnnaa.PFnExactModeOf Go.Proofs.YtlldadbgeomnnaaW.PrintWords Go.Proofs.YtlldadbgeomnnaaW.PrintLast

theorem wrap_zero (n : Nat) (h : n < 18446744073709551616) : IntKind.i64.wrap n = 0 ↔ n = 0 := by
  rw [IntKind.wrap_i64]; omega

theorem bits_zero (a m : Int) : Go.bits .and .i64 a m = 0 ↔ BitVec.ofInt 64 a &&& BitVec.ofInt 64 m = 0#64 := by
  unfold Go.bits
  rw [wrap_zero _ (BitVec.isLt _)]
  constructor
  · intro h; exact BitVec.eq_of_toNat_eq h
  · intro h
    have h2 : (BitVec.ofInt 64 a &&& BitVec.ofInt 64 m).toNat = 0 := by rw [h]; rfl
    exact h2

theorem bits_split (a : Int) : Go.bits .and .i64 a 66 = 0 ↔ (Go.bits .and .i64 a 2 = 0 ∧ Go.bits .and .i64 a 64 = 0) := by
  rw [bits_zero, bits_zero, bits_zero]
  have e : BitVec.ofInt 64 66 = BitVec.ofInt 64 2 ||| BitVec.ofInt 64 64 := by decide
  rw [e, BitVec.and_or_distrib_left, BitVec.or_eq_zero_iff]

theorem FnExactModeOf : laws_FnExactModeOf.Pure := by
  intro a b _ _
  refine ⟨5, ?_⟩
  have hs := bits_split a
  unfold laws_FnExactModeOf.f spec_ModeOf.f impl_ModeOf.f spec_l20Of.f
  simp only [Option.bind_some]
  by_cases h1 : b = 1
  · subst h1
    simp only [spec_ModeOf.j0, impl_ModeOf.j0, impl_ModeOf.j1, impl_ModeOf.j2, impl_ModeOf.j3]
    by_cases ha : a = 1 <;> simp [ha]
  · by_cases h2 : b = 2
    · subst h2
      by_cases e2 : Go.bits .and .i64 a 2 = 0 <;> by_cases e64 : Go.bits .and .i64 a 64 = 0 <;> by_cases e4 : Go.bits .and .i64 a 4 = 0 <;>
        by_cases e48 : Go.bits .and .i64 a 48 = 0 <;>
        simp [spec_ModeOf.j0, impl_ModeOf.j0, impl_ModeOf.j1, impl_ModeOf.j2, impl_ModeOf.j3, e2, e64, e4, e48, hs]
    · by_cases h3 : b = 3
      · subst h3
        by_cases ha : a = 1 <;> simp [ha, impl_ModeOf.j0, impl_ModeOf.j1, impl_ModeOf.j2, impl_ModeOf.j3]
      · by_cases h4 : b = 4
        · subst h4
          by_cases e90 : Go.bits .and .i64 a 90 = 0 <;> by_cases ha : a ≥ 0 <;> simp [e90, ha, impl_ModeOf.j0, impl_ModeOf.j1, impl_ModeOf.j2, impl_ModeOf.j3]
        · simp [h1, h2, h3, h4, impl_ModeOf.j0, impl_ModeOf.j1, impl_ModeOf.j2, impl_ModeOf.j3]

end Go.Proofs.Ytlldadbgeomnnaa.Pure
