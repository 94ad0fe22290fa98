/- Takes of the program tells, for all words and both ways, the place that the reference tells. No condition beyond the row's own. -/
import Derived.Test.YtlldadbgeomnnaaOkFnExactTakes
namespace Go.Proofs.Ytlldadbgeomnnaa.Pure
open Go.RowKit Go.Proofs.Ytlldadbgeomnnaa.PFnExactTakes Go.Proofs.YtlldadbgeomnnaaW.PrintWords Go.Proofs.YtlldadbgeomnnaaW.PrintLast Go.Proofs.Ytlldadbgeomnnaa.OkFnExactTakes

theorem wrap_in {x : Int} (h0 : -9223372036854775808 ≤ x) (h1 : x < 9223372036854775808) : wrap64 x = x := by
  unfold wrap64; omega

theorem wrap_succ {i n : Nat} (h : i < n) (hn : n ≤ 140737488351232) : wrap64 ((i : Int) + 1) = ((i + 1 : Nat) : Int) := by
  rw [wrap_in (by omega) (by omega)]; omega

theorem rd_get {l : List Int} {i : Nat} (h : i < l.length) : rd l (i : Int) = l[i] := by
  unfold rd; simp [List.getD, List.getElem?_eq_getElem h]

theorem toInt_loop (l : List Int) (hl : l.length ≤ 140737488351232) : ∀ (d k i : Nat) (acc : List Int), i ≤ l.length → l.length - i = d → d < k → acc.length = l.length → acc.take i = l.take i →
    laws_toIntS.l0 k l acc (i : Int) = some l := by
  intro d
  induction d with
  | zero =>
    intro k i acc hi hd hk ha hp
    obtain ⟨k, rfl⟩ : ∃ m, k = m + 1 := ⟨k - 1, by omega⟩
    simp only [laws_toIntS.l0]; rw [if_neg (by omega)]
    obtain rfl : i = l.length := by omega
    rw [List.take_length, ← ha, List.take_length] at hp
    rw [hp]
  | succ d ih =>
    intro k i acc hi hd hk ha hp
    obtain ⟨k, rfl⟩ : ∃ m, k = m + 1 := ⟨k - 1, by omega⟩
    simp only [laws_toIntS.l0]
    rw [if_pos (by omega), if_pos (by omega), if_pos (by omega), wrap_succ (n := l.length) (by omega) hl, rd_get (by omega)]
    refine ih k (i + 1) _ (by omega) (by omega) (by omega) (by simpa using ha) ?_
    simp only [Int.toNat_natCast]
    rw [List.take_succ_eq_append_getElem (by simp; omega), List.take_succ_eq_append_getElem (l := l) (by omega), List.take_set_of_le (Nat.le_refl i), hp]
    simp

theorem toInt_all (l : List Int) (hl : l.length ≤ 35184372088832) : ∀ k, l.length < k → laws_toIntS.f k l = some l := by
  intro k hk
  unfold laws_toIntS.f
  rw [if_pos (by omega), if_pos (by omega)]
  exact toInt_loop l (by omega) l.length k 0 _ (by omega) (by omega) hk (by simp) (by simp)

theorem eqInt_loop (l : List Int) (hl : l.length ≤ 140737488351232) : ∀ (d k i : Nat), i ≤ l.length → l.length - i = d → d < k → laws_eqIntS.l0 k l l (i : Int) = some true := by
  intro d
  induction d with
  | zero =>
    intro k i hi hd hk
    obtain ⟨k, rfl⟩ : ∃ m, k = m + 1 := ⟨k - 1, by omega⟩
    simp only [laws_eqIntS.l0]; rw [if_neg (by omega)]
  | succ d ih =>
    intro k i hi hd hk
    obtain ⟨k, rfl⟩ : ∃ m, k = m + 1 := ⟨k - 1, by omega⟩
    simp only [laws_eqIntS.l0]
    rw [if_pos (by omega), if_pos (by omega), if_pos (by omega), if_pos trivial, wrap_succ (n := l.length) (by omega) hl]
    exact ih k (i + 1) (by omega) (by omega) (by omega)
theorem eqInt_all (l : List Int) (hl : l.length ≤ 140737488351232) : ∀ k, l.length < k → laws_eqIntS.f k l l = some true := by
  intro k hk
  unfold laws_eqIntS.f
  rw [if_pos rfl]
  exact eqInt_loop l hl l.length k 0 (by omega) (by omega) hk

theorem sz_some (a0 a1 a2 a3 a4 : Int) (s : ByteArray) (l : List Int) (x : Int) : ∃ r, laws_szIns.f a0 a1 a2 a3 a4 s l x = some r := by
  unfold laws_szIns.f laws_szIntS.f
  split
  · exact ⟨_, rfl⟩
  · split
    · exact ⟨-1, by simp⟩
    · simp only [Option.bind_some]; split <;> exact ⟨_, rfl⟩

theorem FnExactTakes : OkFnExactTakes.Pure := by
  intro x mu hx _
  have hlen : x.f6.length ≤ 17592186043904 := by have h := hx.2.2.2.2.2.2.1; omega
  refine ⟨x.f6.length + 3, ?_⟩
  unfold laws_FnExactTakes.f
  obtain ⟨z, hz⟩ := sz_some x.f0 x.f1 x.f2 x.f3 x.f4 x.f5 x.f6 1048576
  rw [hz]; simp only [Option.bind_some]
  split
  · rfl
  unfold laws_toIns.f
  rw [toInt_all x.f6 (by omega) _ (by omega)]; simp only [Option.bind_some]
  have e : laws_eqIns.f (x.f6.length + 3) x.f0 x.f1 x.f2 x.f3 x.f4 x.f5 x.f6 x.f0 x.f1 x.f2 x.f3 x.f4 x.f5 x.f6 = some true := by
    unfold laws_eqIns.f
    simp [eqInt_all x.f6 (by omega) _ (by omega : x.f6.length < x.f6.length + 3)]
  obtain ⟨r, hr, hi⟩ : ∃ r, spec_Takes.f (x.f6.length + 3) x.f0 x.f1 x.f2 x.f3 x.f4 x.f5 x.f6 mu = some r ∧ impl_Takes.f (x.f6.length + 3) x.f0 x.f1 x.f2 x.f3 x.f4 x.f5 x.f6 mu = some r := by
    unfold spec_Takes.f impl_Takes.f
    simp only [spec_Takes.j0, impl_Takes.j0, impl_Takes.j1]
    cases mu
    · by_cases h4 : x.f0 = 4
      · exact ⟨x.f2, by simp [h4], by simp [h4]⟩
      · by_cases h5 : x.f0 = 5
        · exact ⟨x.f2, by simp [h5], by simp [h5]⟩
        · by_cases h6 : x.f0 = 6
          · exact ⟨x.f2, by simp [h6], by simp [h6]⟩
          · exact ⟨-1, by simp [h4, h5, h6], by simp [h4, h5, h6]⟩
    · by_cases h3 : x.f0 = 3
      · exact ⟨x.f2, by simp [h3], by simp [h3]⟩
      · by_cases h7 : x.f0 = 7
        · exact ⟨x.f2, by simp [h7], by simp [h7]⟩
        · by_cases h14 : x.f0 = 14
          · exact ⟨x.f1, by simp [h14], by simp [h14]⟩
          · by_cases h15 : x.f0 = 15
            · exact ⟨x.f1, by simp [h15], by simp [h15]⟩
            · by_cases h17 : x.f0 = 17
              · exact ⟨x.f1, by simp [h17], by simp [h17]⟩
              · exact ⟨-1, by simp [h3, h7, h14, h15, h17], by simp [h3, h7, h14, h15, h17]⟩
  rw [hr, hi]; simp [e]
end Go.Proofs.Ytlldadbgeomnnaa.Pure
