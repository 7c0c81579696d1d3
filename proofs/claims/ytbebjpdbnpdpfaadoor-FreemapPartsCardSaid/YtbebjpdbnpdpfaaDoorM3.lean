/- Plain arithmetic: the lowest bit of a word, by a product and a table of 64. No program here. -/
namespace Go.Proofs.YtbebjpdbnpdpfaaDoor
namespace Low

theorem odd_part (x : Nat) : x ≠ 0 → ∃ k m, x = 2 ^ k * (2 * m + 1) := by
  induction x using Nat.strongRecOn with
  | _ x ih =>
    intro h
    by_cases ho : x % 2 = 1
    · exact ⟨0, x / 2, by simp; omega⟩
    · obtain ⟨k, m, e⟩ := ih (x / 2) (by omega) (by omega)
      refine ⟨k + 1, m, ?_⟩
      rw [Nat.pow_succ]
      have : x = 2 * (x / 2) := by omega
      rw [this, e, Nat.mul_comm (2 ^ k) 2, Nat.mul_assoc]

theorem bits_of (k m i : Nat) : (2 ^ k * (2 * m + 1)).testBit i = if i < k then false else (2 * m + 1).testBit (i - k) := by
  rw [Nat.testBit_two_pow_mul]
  by_cases h : i < k
  · have : ¬ k ≤ i := by omega
    simp [h, this]
  · have : k ≤ i := by omega
    simp [h, this]

theorem bits_pred (k m i : Nat) : (2 ^ k * (2 * m + 1) - 1).testBit i = if i < k then true else (2 * m).testBit (i - k) := by
  have hp : 0 < 2 ^ k := Nat.pow_pos (by decide)
  have e : 2 ^ k * (2 * m + 1) - 1 = 2 ^ k * (2 * m) + (2 ^ k - 1) := by
    rw [Nat.mul_add]; omega
  rw [e, Nat.testBit_two_pow_mul_add _ (by omega)]
  split
  · rw [Nat.testBit_two_pow_sub_one]; simp [*]
  · rfl

/-- A word and its negative have just its lowest bit. -/
theorem and_neg (k m x : Nat) (hx : x = 2 ^ k * (2 * m + 1)) (hlt : x < 2 ^ 64) : x &&& (2 ^ 64 - x) = 2 ^ k := by
  have hp : 0 < 2 ^ k := Nat.pow_pos (by decide)
  have hpos : 0 < x := by rw [hx]; exact Nat.mul_pos hp (by omega)
  refine Nat.eq_of_testBit_eq fun i => ?_
  have e : 2 ^ 64 - x = 2 ^ 64 - ((x - 1) + 1) := by omega
  have hk : k < 64 := by
    rcases Nat.lt_or_ge k 64 with h | h
    · exact h
    · have h1 : 2 ^ 64 ≤ 2 ^ k := Nat.pow_le_pow_right (by decide) h
      have h2 : 2 ^ k ≤ x := by rw [hx]; exact Nat.le_mul_of_pos_right _ (by omega)
      omega
  rw [Nat.testBit_and, e, Nat.testBit_two_pow_sub_succ (by omega), hx, bits_of, bits_pred, Nat.testBit_two_pow]
  by_cases h : i < k
  · have : ¬ k = i := by omega
    simp [h, this]
  · by_cases h2 : i = k
    · subst h2
      simp [hk]
    · have : ¬ k = i := by omega
      obtain ⟨j, hj⟩ : ∃ j, i - k = j + 1 := ⟨i - k - 1, by omega⟩
      simp only [h, if_false, hj, Nat.testBit_succ, this, decide_false]
      rw [show (2 * m + 1) / 2 = m by omega, show 2 * m / 2 = m by omega]
      cases m.testBit j <;> simp

/-- The table. -/
def tab : List Nat := [0, 1, 56, 2, 57, 49, 28, 3, 61, 58, 42, 50, 38, 29, 17, 4, 62, 47, 59, 36, 45, 43, 51, 22, 53, 39, 33, 30, 24, 18, 12, 5, 63, 55, 48, 27, 60, 41, 37, 16, 46, 35, 44, 21, 52, 32, 23, 11, 54, 26, 40, 15, 34, 20, 31, 10, 25, 14, 19, 9, 13, 8, 7, 6]

theorem tab_at (k : Nat) (hk : k < 64) : tab[2 ^ k * 285870213051353865 % 18446744073709551616 / 288230376151711744]? = some k := by
  have h : ∀ k : Fin 64, tab[2 ^ k.1 * 285870213051353865 % 18446744073709551616 / 288230376151711744]? = some k.1 := by decide
  exact h ⟨k, hk⟩

/-- The lowest bit: k; all below it are noughts. -/
theorem low_bits (k m x : Nat) (hx : x = 2 ^ k * (2 * m + 1)) : x.testBit k = true ∧ ∀ i, i < k → x.testBit i = false := by
  rw [hx]
  constructor
  · rw [bits_of]; simp
  · intro i hi
    rw [bits_of]; simp [hi]

end Low
end Go.Proofs.YtbebjpdbnpdpfaaDoor
