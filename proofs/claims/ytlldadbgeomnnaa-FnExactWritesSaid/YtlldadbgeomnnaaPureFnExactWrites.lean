/- Writes of the program tells, for all words, the place that the reference tells. No condition beyond the row's own. -/
import Derived.Test.YtlldadbgeomnnaaOkFnExactWrites
namespace Go.Proofs.Ytlldadbgeomnnaa.Pure
open Go.RowKit Go.Proofs.Ytlldadbgeomnnaa.PFnExactWrites Go.Proofs.YtlldadbgeomnnaaW.PrintWords Go.Proofs.YtlldadbgeomnnaaW.PrintLast Go.Proofs.Ytlldadbgeomnnaa.OkFnExactWrites

theorem wrap_in {x : Int} (h0 : -9223372036854775808 ≤ x) (h1 : x < 9223372036854775808) : wrap64 x = x := by
  unfold wrap64; omega

theorem wrap_succ {i n : Nat} (h : i < n) (hn : n ≤ 140737488351232) : wrap64 ((i : Int) + 1) = ((i + 1 : Nat) : Int) := by
  rw [wrap_in (by omega) (by omega)]; omega

theorem rd_get {l : List Int} {i : Nat} (h : i < l.length) : rd l (i : Int) = l[i] := by
  unfold rd; simp [List.getD, List.getElem?_eq_getElem h]

theorem toInt_loop (l : List Int) (hl : l.length ≤ 140737488351232) : ∀ (d k i : Nat) (acc : List Int), i ≤ l.length → l.length - i = d → d < k → acc.length = l.length → acc.take i = l.take i →
    laws_toIntS.l0 k l acc (i : Int) = some l := by
  intro d
  induction d with
  | zero =>
    intro k i acc hi hd hk ha hp
    obtain ⟨k, rfl⟩ : ∃ m, k = m + 1 := ⟨k - 1, by omega⟩
    simp only [laws_toIntS.l0]; rw [if_neg (by omega)]
    obtain rfl : i = l.length := by omega
    rw [List.take_length, ← ha, List.take_length] at hp
    rw [hp]
  | succ d ih =>
    intro k i acc hi hd hk ha hp
    obtain ⟨k, rfl⟩ : ∃ m, k = m + 1 := ⟨k - 1, by omega⟩
    simp only [laws_toIntS.l0]
    rw [if_pos (by omega), if_pos (by omega), if_pos (by omega), wrap_succ (n := l.length) (by omega) hl, rd_get (by omega)]
    refine ih k (i + 1) _ (by omega) (by omega) (by omega) (by simpa using ha) ?_
    simp only [Int.toNat_natCast]
    rw [List.take_succ_eq_append_getElem (by simp; omega), List.take_succ_eq_append_getElem (l := l) (by omega), List.take_set_of_le (Nat.le_refl i), hp]
    simp

theorem toInt_all (l : List Int) (hl : l.length ≤ 35184372088832) : ∀ k, l.length < k → laws_toIntS.f k l = some l := by
  intro k hk
  unfold laws_toIntS.f
  rw [if_pos (by omega), if_pos (by omega)]
  exact toInt_loop l (by omega) l.length k 0 _ (by omega) (by omega) hk (by simp) (by simp)

theorem eqInt_loop (l : List Int) (hl : l.length ≤ 140737488351232) : ∀ (d k i : Nat), i ≤ l.length → l.length - i = d → d < k → laws_eqIntS.l0 k l l (i : Int) = some true := by
  intro d
  induction d with
  | zero =>
    intro k i hi hd hk
    obtain ⟨k, rfl⟩ : ∃ m, k = m + 1 := ⟨k - 1, by omega⟩
    simp only [laws_eqIntS.l0]; rw [if_neg (by omega)]
  | succ d ih =>
    intro k i hi hd hk
    obtain ⟨k, rfl⟩ : ∃ m, k = m + 1 := ⟨k - 1, by omega⟩
    simp only [laws_eqIntS.l0]
    rw [if_pos (by omega), if_pos (by omega), if_pos (by omega), if_pos trivial, wrap_succ (n := l.length) (by omega) hl]
    exact ih k (i + 1) (by omega) (by omega) (by omega)
theorem eqInt_all (l : List Int) (hl : l.length ≤ 140737488351232) : ∀ k, l.length < k → laws_eqIntS.f k l l = some true := by
  intro k hk
  unfold laws_eqIntS.f
  rw [if_pos rfl]
  exact eqInt_loop l hl l.length k 0 (by omega) (by omega) hk

theorem sz_some (a0 a1 a2 a3 a4 : Int) (s : ByteArray) (l : List Int) (x : Int) : ∃ r, laws_szIns.f a0 a1 a2 a3 a4 s l x = some r := by
  unfold laws_szIns.f laws_szIntS.f
  split
  · exact ⟨_, rfl⟩
  · split
    · exact ⟨-1, by simp⟩
    · simp only [Option.bind_some]; split <;> exact ⟨_, rfl⟩

theorem FnExactWrites : OkFnExactWrites.Pure := by
  intro x hx
  have hlen : x.f6.length ≤ 17592186043904 := by have h := hx.2.2.2.2.2.2.1; omega
  refine ⟨x.f6.length + 1, ?_⟩
  unfold laws_FnExactWrites.f
  obtain ⟨z, hz⟩ := sz_some x.f0 x.f1 x.f2 x.f3 x.f4 x.f5 x.f6 1048576
  rw [hz]; simp only [Option.bind_some]
  split
  · rfl
  unfold laws_toIns.f
  rw [toInt_all x.f6 (by omega) _ (by omega)]; simp only [Option.bind_some]
  have e : laws_eqIns.f (x.f6.length + 1) x.f0 x.f1 x.f2 x.f3 x.f4 x.f5 x.f6 x.f0 x.f1 x.f2 x.f3 x.f4 x.f5 x.f6 = some true := by
    unfold laws_eqIns.f
    simp [eqInt_all x.f6 (by omega) _ (Nat.lt_succ_self _)]
  have e2 : impl_Writes.f x.f0 x.f1 x.f2 x.f3 x.f4 x.f5 x.f6 = spec_Writes.f x.f0 x.f1 x.f2 x.f3 x.f4 x.f5 x.f6 := by
    unfold impl_Writes.f spec_Writes.f impl_in.f spec_l01In.f
    rfl
  obtain ⟨r, hr⟩ : ∃ r, spec_Writes.f x.f0 x.f1 x.f2 x.f3 x.f4 x.f5 x.f6 = some r := by
    unfold spec_Writes.f spec_l01In.f
    by_cases h1 : x.f0 ≥ 1 <;> by_cases h2 : x.f0 ≤ 14 <;> simp [h1, h2]
  rw [e2, hr]; simp [e]
end Go.Proofs.Ytlldadbgeomnnaa.Pure
