/- Plain facts on sets of pages: how many there are, the first one from a page on. No program here. -/
import Derived.Test.YtbebjpdbnpdpfaaDoorM1
import Derived.Test.YtbebjpdbnpdpfaaDoorM2
import Derived.Test.YtbebjpdbnpdpfaaDoorM3
set_option linter.unusedVariables false
namespace Go.Proofs.YtbebjpdbnpdpfaaDoor

/-- The bits of words, added. -/
def popsum (ws : List Nat) : Nat := (ws.map (Pop.dsum 2 64)).sum

theorem countP_blocks (f : Nat → Bool) (n : Nat) : (List.range (64 * n)).countP f = ((List.range n).map fun i => (List.range 64).countP fun j => f (64 * i + j)).sum := by
  induction n with
  | zero => rfl
  | succ n ih =>
    rw [show 64 * (n + 1) = 64 * n + 64 by omega, List.range_add, List.countP_append, ih, show List.range (n + 1) = List.range n ++ [n] from List.range_succ, List.map_append, List.sum_append, List.countP_map, List.map_cons, List.map_nil, List.sum_cons, List.sum_nil, Nat.add_zero]
    rfl

theorem countP_getD (l : List Bool) (N : Nat) (h : l.length ≤ N) : (List.range N).countP (fun p => l.getD p false) = l.count true := by
  obtain ⟨d, rfl⟩ : ∃ d, N = l.length + d := ⟨N - l.length, by omega⟩
  rw [List.range_add, List.countP_append]
  have h1 : (List.range l.length).map (fun p => l.getD p false) = l := by
    apply List.ext_getElem
    · simp
    · intro i h1 h2
      simp at h1
      simp [h1]
  have h2 : (List.range l.length).countP (fun p => l.getD p false) = l.count true := by
    have : (List.range l.length).countP ((fun b => b == true) ∘ fun p => l.getD p false) = ((List.range l.length).map (fun p => l.getD p false)).countP (fun b => b == true) := by rw [List.countP_map]
    rw [h1] at this
    rw [List.count, ← this]
    congr 1
    funext p
    simp
  rw [h2]
  have : ((List.range d).map fun x => l.length + x).countP (fun p => l.getD p false) = 0 := by
    rw [List.countP_eq_zero]
    intro a ha
    obtain ⟨x, _, rfl⟩ := List.mem_map.1 ha
    simp
  omega

/-- The words' bits are as many as the pages. -/
theorem popsum_count {l : List Bool} {ws : List Nat} (h : Bits l ws) : popsum ws = l.count true := by
  rw [← countP_getD l (64 * ws.length) (by rw [h.len]; omega), countP_blocks]
  have hm : ws.map (Pop.dsum 2 64) = (List.range ws.length).map fun i => (List.range 64).countP fun j => l.getD (64 * i + j) false := by
    refine List.ext_getElem (by rw [List.length_map, List.length_map, List.length_range]) fun i h1 h2 => ?_
    rw [List.length_map] at h1
    rw [List.getElem_map, List.getElem_map, List.getElem_range, Pop.dsum_bits]
    apply List.countP_congr
    intro j hj
    have hj := List.mem_range.1 hj
    have := h.bit (64 * i + j) (by omega)
    rw [show (64 * i + j) / 64 = i by omega, show (64 * i + j) % 64 = j by omega] at this
    rw [← this]
    simp [h1]
  exact congrArg List.sum hm

/-- The lowest page from one on; -1: there is none. -/
def firstB (l : List Bool) (from_ : Int) : Int :=
  if from_.toNat + (l.drop from_.toNat).findIdx id < l.length then ((from_.toNat + (l.drop from_.toNat).findIdx id : Nat) : Int) else -1

theorem firstB_some {l : List Bool} {from_ : Int} (r : Nat) (hf : from_.toNat ≤ r) (ht : l.getD r false = true) (hn : ∀ i, from_.toNat ≤ i → i < r → l.getD i false = false) : firstB l from_ = r := by
  have hr : r < l.length := by
    rcases Nat.lt_or_ge r l.length with h | h
    · exact h
    · simp [List.getElem?_eq_none h] at ht
  have e : (l.drop from_.toNat).findIdx id = r - from_.toNat := by
    have hlt : r - from_.toNat < (l.drop from_.toNat).length := by simp; omega
    rw [List.findIdx_eq hlt]
    constructor
    · simp only [List.getElem_drop, id]
      have : from_.toNat + (r - from_.toNat) = r := by omega
      simp only [this]
      simpa [hr] using ht
    · intro j hj
      simp only [List.getElem_drop, id]
      have := hn (from_.toNat + j) (by omega) (by omega)
      have h2 : from_.toNat + j < l.length := by omega
      simpa [h2] using this
  unfold firstB
  rw [e, show from_.toNat + (r - from_.toNat) = r by omega, if_pos hr]

theorem firstB_none {l : List Bool} {from_ : Int} (hn : ∀ i, from_.toNat ≤ i → l.getD i false = false) : firstB l from_ = -1 := by
  unfold firstB
  split
  · rename_i h
    have hlt : (l.drop from_.toNat).findIdx id < (l.drop from_.toNat).length := by simp; omega
    have := List.findIdx_getElem (w := hlt)
    simp only [List.getElem_drop, id] at this
    have h2 := hn (from_.toNat + (l.drop from_.toNat).findIdx id) (by omega)
    simp [h] at h2
    rw [h2] at this
    cases this
  · rfl

theorem firstB_cases (l : List Bool) (from_ : Int) : (firstB l from_ = -1 ∧ ∀ i, from_.toNat ≤ i → l.getD i false = false) ∨
    ∃ r : Nat, firstB l from_ = r ∧ r < l.length ∧ from_.toNat ≤ r ∧ l.getD r false = true ∧ ∀ i, from_.toNat ≤ i → i < r → l.getD i false = false := by
  by_cases h : ∃ r, from_.toNat ≤ r ∧ l.getD r false = true
  · right
    obtain ⟨r0, h0⟩ := h
    obtain ⟨r, hr⟩ : ∃ r, (from_.toNat ≤ r ∧ l.getD r false = true) ∧ ∀ i, from_.toNat ≤ i → i < r → l.getD i false = false := by
      induction r0 using Nat.strongRecOn with
      | _ r0 ih =>
        by_cases hh : ∃ i, from_.toNat ≤ i ∧ i < r0 ∧ l.getD i false = true
        · obtain ⟨i, h1, h2, h3⟩ := hh
          exact ih i h2 ⟨h1, h3⟩
        · refine ⟨r0, h0, fun i h1 h2 => ?_⟩
          cases h3 : l.getD i false with
          | false => rfl
          | true => exact absurd ⟨i, h1, h2, h3⟩ hh
    refine ⟨r, firstB_some r hr.1.1 hr.1.2 hr.2, ?_, hr.1.1, hr.1.2, hr.2⟩
    rcases Nat.lt_or_ge r l.length with h | h
    · exact h
    · have := hr.1.2
      simp [List.getElem?_eq_none h] at this
  · left
    have hn : ∀ i, from_.toNat ≤ i → l.getD i false = false := by
      intro i hi
      cases h3 : l.getD i false with
      | false => rfl
      | true => exact absurd ⟨i, hi, h3⟩ h
    exact ⟨firstB_none hn, hn⟩

/-- The mask of a round: the bits from a page on. -/
structure Mask (f k mk : Nat) : Prop where
  lt : mk < 2 ^ 64
  bit : ∀ j, j < 64 → mk.testBit j = decide (f ≤ 64 * k + j)

theorem mask_start (f : Nat) : Mask f (f / 64) (2 ^ 64 - 2 ^ (f % 64)) := by
  have hp : 0 < 2 ^ (f % 64) := Nat.pow_pos (by decide)
  refine ⟨by omega, fun j hj => ?_⟩
  have hle : 2 ^ (f % 64) ≤ 2 ^ 64 := Nat.pow_le_pow_right (by decide) (by omega)
  have e : 2 ^ 64 - 2 ^ (f % 64) = 2 ^ 64 - ((2 ^ (f % 64) - 1) + 1) := by omega
  rw [e, Nat.testBit_two_pow_sub_succ (by omega), Nat.testBit_two_pow_sub_one]
  by_cases h : j < f % 64
  · have : ¬ f ≤ 64 * (f / 64) + j := by omega
    simp [h, hj, this]
  · have : f ≤ 64 * (f / 64) + j := by omega
    simp [h, hj, this]
theorem mask_next (f k : Nat) (h : f ≤ 64 * k) : Mask f k 18446744073709551615 := by
  refine ⟨by decide, fun j hj => ?_⟩
  rw [testBit_top]
  simp [hj]
  omega

/-- No bit under the mask: no page in this word. -/
theorem mask_zero {l : List Bool} {ws : List Nat} (hB : Bits l ws) {f k mk : Nat} (hk : k < ws.length) (hm : Mask f k mk) (h0 : ws[k] &&& mk = 0) (hn : ∀ p, f ≤ p → p < 64 * k → l.getD p false = false) :
    ∀ p, f ≤ p → p < 64 * (k + 1) → l.getD p false = false := by
  intro p h1 h2
  by_cases hp : p < 64 * k
  · exact hn p h1 hp
  · have hb := hB.bit p (by omega)
    have hb1 := hm.bit (p % 64) (Nat.mod_lt _ (by decide))
    have hz : (ws[k] &&& mk).testBit (p % 64) = false := by rw [h0]; simp
    rw [Nat.testBit_and, hb1, show p / 64 = k by omega] at *
    have : decide (f ≤ 64 * k + p % 64) = true := by simp; omega
    rw [this] at hz
    simp [hk] at hb
    simp at hz
    rw [List.getD_eq_getElem?_getD, ← hb, hz]

/-- The lowest bit under the mask: the first page. -/
theorem mask_hit {l : List Bool} {ws : List Nat} (hB : Bits l ws) {f k mk t m : Nat} (hk : k < ws.length) (hm : Mask f k mk) (h0 : ws[k] &&& mk = 2 ^ t * (2 * m + 1)) (hn : ∀ p, f ≤ p → p < 64 * k → l.getD p false = false)
    {from_ : Int} (hf : from_.toNat = f) : firstB l from_ = ((64 * k + t : Nat) : Int) ∧ t < 64 := by
  obtain ⟨b1, b2⟩ := Low.low_bits t m _ h0
  have ht : t < 64 := by
    rcases Nat.lt_or_ge t 64 with h | h
    · exact h
    · rw [Nat.testBit_and, Nat.testBit_lt_two_pow (Nat.lt_of_lt_of_le hm.lt (Nat.pow_le_pow_right (by decide) h))] at b1
      simp at b1
  refine ⟨firstB_some _ ?_ ?_ ?_, ht⟩
  · rw [hf]
    rw [Nat.testBit_and, hm.bit t ht] at b1
    simp at b1
    exact b1.2
  · have hb := hB.bit (64 * k + t) (by omega)
    rw [show (64 * k + t) / 64 = k by omega, show (64 * k + t) % 64 = t by omega] at hb
    rw [Nat.testBit_and] at b1
    simp at b1
    rw [← hb]
    simp [hk, b1.1]
  · intro i h1 h2
    rw [hf] at h1
    by_cases hp : i < 64 * k
    · exact hn i h1 hp
    · have hb := hB.bit i (by omega)
      have hz := b2 (i % 64) (by omega)
      rw [Nat.testBit_and, hm.bit (i % 64) (Nat.mod_lt _ (by decide))] at hz
      have : decide (f ≤ 64 * k + i % 64) = true := by simp; omega
      rw [this] at hz
      rw [show i / 64 = k by omega] at hb
      simp [hk] at hb
      simp at hz
      rw [List.getD_eq_getElem?_getD, ← hb, hz]

end Go.Proofs.YtbebjpdbnpdpfaaDoor
