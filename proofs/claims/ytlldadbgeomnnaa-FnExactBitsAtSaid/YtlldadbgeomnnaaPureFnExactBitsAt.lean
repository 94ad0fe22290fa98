/- BitsAt of the program tells, for all effects and names, the bits that the reference tells. No condition beyond the row's own. -/
import Derived.Test.YtlldadbgeomnnaaOkFnExactBitsAt
namespace Go.Proofs.Ytlldadbgeomnnaa.Pure
open Go.RowKit Go.Proofs.Ytlldadbgeomnnaa.PFnExactBitsAt Go.Proofs.YtlldadbgeomnnaaW.PrintWords Go.Proofs.YtlldadbgeomnnaaW.PrintLast Go.Proofs.Ytlldadbgeomnnaa.OkFnExactBitsAt

theorem wrap_in {x : Int} (h0 : -9223372036854775808 ≤ x) (h1 : x < 9223372036854775808) : wrap64 x = x := by
  unfold wrap64; omega

theorem wrap_succ {i n : Nat} (h : i < n) (hn : n ≤ 140737488351232) : wrap64 ((i : Int) + 1) = ((i + 1 : Nat) : Int) := by
  rw [wrap_in (by omega) (by omega)]; omega

theorem rd_get {l : List S64} {i : Nat} (h : i < l.length) : rd_T64 l (i : Int) = l[i] := by
  unfold rd_T64; simp [List.getD, List.getElem?_eq_getElem h]
theorem rd_get63 {l : List S63} {i : Nat} (h : i < l.length) : rd_T63 l (i : Int) = l[i] := by
  unfold rd_T63; simp [List.getD, List.getElem?_eq_getElem h]

/-- The size is told, whatever it is. -/
theorem sz_some (l : List S63) (hl : l.length ≤ 140737488351232) : ∀ (d k i : Nat) (x : Int), i ≤ l.length → l.length - i = d → d < k → ∃ r, laws_szEffectS.l0 k l x (i : Int) = some r := by
  intro d
  induction d with
  | zero =>
    intro k i x hi hd hk
    obtain ⟨k, rfl⟩ : ∃ m, k = m + 1 := ⟨k - 1, by omega⟩
    exact ⟨x, by simp only [laws_szEffectS.l0]; rw [if_neg (by omega)]⟩
  | succ d ih =>
    intro k i x hi hd hk
    obtain ⟨k, rfl⟩ : ∃ m, k = m + 1 := ⟨k - 1, by omega⟩
    simp only [laws_szEffectS.l0]
    rw [if_pos (by omega), if_pos (by omega)]
    unfold laws_szEffect.f
    split
    · exact ⟨-1, by simp⟩
    · simp only [Option.bind_some]
      split
      · exact ⟨-1, rfl⟩
      · rw [wrap_succ (n := l.length) (by omega) hl]
        exact ih k (i + 1) _ (by omega) (by omega) (by omega)

def conv (x : S63) : S64 := ⟨x.f0, x.f1⟩
theorem to_loop (l : List S63) (hl : l.length ≤ 140737488351232) : ∀ (d k i : Nat) (acc : List S64), i ≤ l.length → l.length - i = d → d < k → acc.length = l.length → acc.take i = (l.take i).map conv →
    laws_toEffectS.l0 k l acc (i : Int) = some (l.map conv) := by
  intro d
  induction d with
  | zero =>
    intro k i acc hi hd hk ha hp
    obtain ⟨k, rfl⟩ : ∃ m, k = m + 1 := ⟨k - 1, by omega⟩
    simp only [laws_toEffectS.l0]; rw [if_neg (by omega)]
    obtain rfl : i = l.length := by omega
    rw [List.take_length, ← ha, List.take_length] at hp
    rw [hp]
  | succ d ih =>
    intro k i acc hi hd hk ha hp
    obtain ⟨k, rfl⟩ : ∃ m, k = m + 1 := ⟨k - 1, by omega⟩
    simp only [laws_toEffectS.l0]
    rw [if_pos (by omega), if_pos (by omega)]
    simp only [laws_toEffect.f, Option.bind_some]
    rw [if_pos (by omega), wrap_succ (n := l.length) (by omega) hl, rd_get63 (by omega)]
    refine ih k (i + 1) _ (by omega) (by omega) (by omega) (by simpa using ha) ?_
    simp only [Int.toNat_natCast]
    rw [List.take_succ_eq_append_getElem (by simp; omega), List.take_succ_eq_append_getElem (l := l) (by omega), List.map_append, List.take_set_of_le (Nat.le_refl i), hp]
    simp [conv]

theorem to_all (l : List S63) (hl : l.length ≤ 11728124029610) : ∀ k, l.length < k → laws_toEffectS.f k l = some (l.map conv) := by
  intro k hk
  unfold laws_toEffectS.f
  rw [if_pos (by omega), if_pos (by omega)]
  exact to_loop l (by omega) l.length k 0 _ (by omega) (by omega) hk (by simp) (by simp)

theorem eq_loop (l : List S64) (hl : l.length ≤ 140737488351232) : ∀ (d k i : Nat), i ≤ l.length → l.length - i = d → d < k → laws_eqEffectS.l0 k l l (i : Int) = some true := by
  intro d
  induction d with
  | zero =>
    intro k i hi hd hk
    obtain ⟨k, rfl⟩ : ∃ m, k = m + 1 := ⟨k - 1, by omega⟩
    simp only [laws_eqEffectS.l0]; rw [if_neg (by omega)]
  | succ d ih =>
    intro k i hi hd hk
    obtain ⟨k, rfl⟩ : ∃ m, k = m + 1 := ⟨k - 1, by omega⟩
    simp only [laws_eqEffectS.l0]
    rw [if_pos (by omega), if_pos (by omega), if_pos (by omega)]
    simp only [laws_eqEffect.f, if_true, Option.bind_some]
    rw [wrap_succ (n := l.length) (by omega) hl]
    exact ih k (i + 1) (by omega) (by omega) (by omega)
theorem eq_all (l : List S64) (hl : l.length ≤ 140737488351232) : ∀ k, l.length < k → laws_eqEffectS.f k l l = some true := by
  intro k hk
  unfold laws_eqEffectS.f
  rw [if_pos rfl]
  exact eq_loop l hl l.length k 0 (by omega) (by omega) hk

/-- Both searches, side by side. -/
theorem both (l : List S64) (s : ByteArray) (hl : l.length ≤ 140737488351232) : ∀ (d k i : Nat), i ≤ l.length → l.length - i = d → d < k →
    ∃ j b, spec_l17At.l0 k l s (i : Int) = some j ∧ impl_BitsAt.l0 k s l (l.length : Int) (i : Int) = some b ∧ (j = -1 ∧ b = 0 ∨ ∃ n : Nat, n < l.length ∧ j = n ∧ b = (rd_T64 l n).f1) := by
  intro d
  induction d with
  | zero =>
    intro k i hi hd hk
    obtain ⟨k, rfl⟩ : ∃ m, k = m + 1 := ⟨k - 1, by omega⟩
    refine ⟨-1, 0, ?_, ?_, Or.inl ⟨rfl, rfl⟩⟩
    · simp only [spec_l17At.l0]; rw [if_neg (by omega)]
    · simp only [impl_BitsAt.l0]; rw [if_neg (by omega)]
  | succ d ih =>
    intro k i hi hd hk
    obtain ⟨k, rfl⟩ : ∃ m, k = m + 1 := ⟨k - 1, by omega⟩
    simp only [spec_l17At.l0, impl_BitsAt.l0]
    by_cases e : ((rd_T64 l (i : Int)).f0).toList = s.toList
    · refine ⟨i, (rd_T64 l i).f1, ?_, ?_, Or.inr ⟨i, by omega, rfl, rfl⟩⟩
      · rw [if_pos (by omega), if_pos (by omega), if_pos e]
      · rw [if_pos (by omega), if_pos (by omega), if_pos (by omega), if_pos e]
    · obtain ⟨j, b, h1, h2, h3⟩ := ih k (i + 1) (by omega) (by omega) (by omega)
      refine ⟨j, b, ?_, ?_, h3⟩
      · rw [if_pos (by omega), if_pos (by omega), if_neg e, wrap_succ (n := l.length) (by omega) hl]; exact h1
      · rw [if_pos (by omega), if_pos (by omega), if_pos (by omega), if_neg e, wrap_succ (n := l.length) (by omega) hl]; exact h2

theorem FnExactBitsAt : OkFnExactBitsAt.Pure := by
  intro l s hl _
  have hlen : l.length ≤ 5864062014634 := by have := hl.1; omega
  refine ⟨l.length + 1, ?_⟩
  unfold laws_FnExactBitsAt.f
  split
  · rfl
  obtain ⟨z, hz⟩ : ∃ z, laws_szEffectS.f (l.length + 1) l 1048576 = some z := by
    unfold laws_szEffectS.f
    split
    · exact ⟨_, rfl⟩
    · exact sz_some l (by omega) l.length _ 0 _ (by omega) (by omega) (by omega)
  rw [hz]; simp only [Option.bind_some]
  split
  · rfl
  rw [to_all l (by omega) _ (by omega)]; simp only [Option.bind_some]
  obtain ⟨j, b, h1, h2, h3⟩ := both (l.map conv) s (by simp; omega) l.length (l.length + 1) 0 (by omega) (by simp) (by omega)
  unfold spec_BitsAt.f spec_l17At.f impl_BitsAt.f
  simp only [Int.natCast_zero] at h1 h2
  rw [h1, h2]; simp only [Option.bind_some]
  have e := eq_all (l.map conv) (by simp; omega) (l.length + 1) (by simp)
  rcases h3 with ⟨rfl, rfl⟩ | ⟨n, hn, rfl, rfl⟩
  · simp [e]
  · rw [if_neg (by omega), if_pos (by omega), if_pos (by omega)]; simp [e]
end Go.Proofs.Ytlldadbgeomnnaa.Pure
