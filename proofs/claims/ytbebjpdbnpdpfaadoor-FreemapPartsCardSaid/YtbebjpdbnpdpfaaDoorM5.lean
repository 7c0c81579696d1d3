/- Plain facts on words of bits: all bits turned round. No program here. -/
import Derived.Test.YtbebjpdbnpdpfaaDoorM4
set_option linter.unusedVariables false
namespace Go.Proofs.YtbebjpdbnpdpfaaDoor

/-- The first k words turned round. -/
def mix (ws : List Nat) (k : Nat) : List Nat := ws.mapIdx fun j x => if j < k then 18446744073709551615 - x else x

theorem mix_len (ws : List Nat) (k : Nat) : (mix ws k).length = ws.length := by simp [mix]
theorem mix_zero (ws : List Nat) : mix ws 0 = ws := by
  apply List.ext_getElem
  · simp [mix]
  · intro i h1 h2; simp [mix]
theorem mix_get {ws : List Nat} {k : Nat} (h : k < ws.length) : (mix ws k)[k]? = some ws[k] := by simp [mix, h]
theorem mix_set {ws : List Nat} {k : Nat} (h : k < ws.length) : (mix ws k).set k (18446744073709551615 - ws[k]) = mix ws (k + 1) := by
  apply List.ext_getElem
  · simp [mix]
  · intro i h1 h2
    simp only [List.getElem_set, mix, List.getElem_mapIdx]
    by_cases e : k = i
    · subst e; simp
    · rw [if_neg e]
      by_cases hi : i < k
      · rw [if_pos hi, if_pos (by omega)]
      · rw [if_neg hi, if_neg (by omega)]
theorem mix_all (ws : List Nat) : mix ws ws.length = ws.map (18446744073709551615 - ·) := by
  apply List.ext_getElem
  · simp [mix]
  · intro i h1 h2
    simp at h2
    simp [mix, h2]

/-- The pages that are not in it. -/
abbrev notB (l : List Bool) : List Bool := l.map (!·)

theorem Bits.of {l : List Bool} {ws : List Nat} (hl : ws.length = (l.length + 63) / 64) (hlt : ∀ (i : Nat) (h : i < ws.length), ws[i] < 2 ^ 64)
    (h1 : ∀ (p : Nat) (hp : p < l.length) (hi : p / 64 < ws.length), ws[p / 64].testBit (p % 64) = l[p]) (h2 : ∀ p, l.length ≤ p → (hi : p / 64 < ws.length) → ws[p / 64].testBit (p % 64) = false) : Bits l ws := by
  refine ⟨hl, hlt, fun p hp => ?_⟩
  have hi : p / 64 < ws.length := by omega
  by_cases h : p < l.length
  · simp only [List.getD_eq_getElem?_getD, List.getElem?_eq_getElem hi, List.getElem?_eq_getElem h, Option.getD_some]
    exact h1 p h hi
  · simp only [List.getD_eq_getElem?_getD, List.getElem?_eq_getElem hi, List.getElem?_eq_none (Nat.le_of_not_lt h), Option.getD_some, Option.getD_none]
    exact h2 p (by omega) hi

theorem compl_bit {l : List Bool} {ws : List Nat} (h : Bits l ws) (p : Nat) (hi : p / 64 < ws.length) : (18446744073709551615 - ws[p / 64]).testBit (p % 64) = !l.getD p false := by
  have := h.bit p (by omega)
  simp only [List.getD_eq_getElem?_getD, List.getElem?_eq_getElem hi, Option.getD_some] at this
  rw [testBit_compl (h.lt _ hi), this]
  simp [Nat.mod_lt]

theorem Bits.not0 {l : List Bool} {ws : List Nat} (h : Bits l ws) (h0 : l.length % 64 = 0) : Bits (notB l) (ws.map (18446744073709551615 - ·)) := by
  refine Bits.of (by simp [h.len]) (fun i hi => by simp; omega) (fun p hp hi => ?_) (fun p hp hi => ?_)
  · have hp' : p < l.length := by simpa using hp
    have hi' : p / 64 < ws.length := by simpa using hi
    simp only [List.getElem_map]
    rw [compl_bit h p hi']
    simp [hp']
  · have hp' : l.length ≤ p := by simpa using hp
    have hi' : p / 64 < ws.length := by simpa using hi
    have := h.len
    omega

theorem mask_bit (k j : Nat) : (2 ^ k - 1).testBit j = decide (j < k) := by rw [Nat.testBit_two_pow_sub_one]

theorem Bits.not1 {l : List Bool} {ws : List Nat} (h : Bits l ws) (k last : Nat) (hk : l.length % 64 = k) (h0 : 0 < k) (hlast : last + 1 = ws.length) (y : Nat) (hy : (ws.map (18446744073709551615 - ·))[last]? = some y) :
    Bits (notB l) ((ws.map (18446744073709551615 - ·)).set last (y &&& (2 ^ k - 1))) := by
  have hll : last < ws.length := by omega
  have hyv : y = 18446744073709551615 - ws[last] := by
    simp [hll] at hy
    exact hy.symm
  have hlen := h.len
  refine Bits.of (by simp [h.len]) (fun i hi => ?_) (fun p hp hi => ?_) (fun p hp hi => ?_)
  · rw [List.getElem_set]
    split
    · exact Nat.lt_of_le_of_lt Nat.and_le_left (by omega)
    · simp; omega
  · have hp' : p < l.length := by simpa using hp
    have hi' : p / 64 < ws.length := by simpa using hi
    have hc := compl_bit h p hi'
    rw [List.getElem_set]
    split
    · rename_i e
      subst e
      rw [Nat.testBit_and, hyv, hc, mask_bit]
      simp [hp']
      omega
    · simp only [List.getElem_map]
      rw [hc]
      simp [hp']
  · have hp' : l.length ≤ p := by simpa using hp
    have hi' : p / 64 < ws.length := by simpa using hi
    rw [List.getElem_set, if_pos (by omega), Nat.testBit_and, mask_bit]
    have : ¬ p % 64 < k := by omega
    simp [this]

end Go.Proofs.YtbebjpdbnpdpfaaDoor
