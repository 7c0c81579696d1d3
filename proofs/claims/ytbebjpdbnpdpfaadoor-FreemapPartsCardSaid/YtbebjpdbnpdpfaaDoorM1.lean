/- Plain arithmetic on words of bits: what a set of pages, kept as 64-bit words, does to a list of bools; how many bits a word has; where its lowest one is. No program here. -/
namespace Go.Proofs.YtbebjpdbnpdpfaaDoor

/-- The words ws bear the bits l, and behind them noughts. -/
structure Bits (l : List Bool) (ws : List Nat) : Prop where
  len : ws.length = (l.length + 63) / 64
  lt : ∀ (i : Nat) (h : i < ws.length), ws[i] < 2 ^ 64
  bit : ∀ p, p < 64 * ws.length → (ws.getD (p / 64) 0).testBit (p % 64) = l.getD p false

theorem Bits.get {l : List Bool} {ws : List Nat} (h : Bits l ws) {p : Nat} (hp : p < l.length) (hi : p / 64 < ws.length) : (ws[p / 64]).testBit (p % 64) = l[p] := by
  have := h.bit p (by omega)
  simpa [hi, hp] using this

theorem div_lt {l : List Bool} {ws : List Nat} (h : Bits l ws) {p : Nat} (hp : p < l.length) : p / 64 < ws.length := by
  rw [h.len]; omega

/-- A bit put in, or taken out. -/
theorem Bits.put {l : List Bool} {ws : List Nat} (h : Bits l ws) {p : Nat} (hp : p < l.length) (hi : p / 64 < ws.length) (v : Bool) (y : Nat) (hy : y < 2 ^ 64)
    (hv : ∀ j, j < 64 → y.testBit j = if j = p % 64 then v else (ws[p / 64]).testBit j) : Bits (l.set p v) (ws.set (p / 64) y) := by
  refine ⟨by simpa using h.len, ?_, ?_⟩
  · intro i hi'
    rw [List.getElem_set]
    split
    · exact hy
    · exact h.lt i (by simpa using hi')
  · intro q hq
    have hq' : q < 64 * ws.length := by simpa using hq
    have hb := h.bit q hq'
    have hqi : q / 64 < ws.length := by omega
    simp only [List.getD_eq_getElem?_getD, List.getElem?_set] at hb ⊢
    by_cases e : p / 64 = q / 64
    · have hw : ws[p / 64] = ws[q / 64] := by simp only [e]
      rw [if_pos e, if_pos hi]
      simp only [Option.getD_some]
      rw [hv _ (Nat.mod_lt _ (by decide))]
      by_cases e2 : p = q
      · subst e2; simp [hp]
      · rw [if_neg (by omega), if_neg e2]
        simp [hqi] at hb
        rw [hw, ← hb]
    · rw [if_neg e, if_neg (by intro e2; subst e2; exact e rfl)]
      exact hb

theorem Bits.or {l : List Bool} {ws : List Nat} (h : Bits l ws) {p : Nat} (hp : p < l.length) (hi : p / 64 < ws.length) : Bits (l.set p true) (ws.set (p / 64) (ws[p / 64] ||| 2 ^ (p % 64))) := by
  refine h.put hp hi true _ (Nat.or_lt_two_pow (h.lt _ hi) (Nat.pow_lt_pow_right (by decide) (Nat.mod_lt _ (by decide)))) fun j hj => ?_
  rw [Nat.testBit_or, Nat.testBit_two_pow]
  split
  · subst_vars; simp
  · have : decide (p % 64 = j) = false := by simp; omega
    simp [this]

theorem testBit_top (j : Nat) : (18446744073709551615 : Nat).testBit j = decide (j < 64) := by
  have : (18446744073709551615 : Nat) = 2 ^ 64 - 1 := by decide
  rw [this, Nat.testBit_two_pow_sub_one]

theorem testBit_compl {x : Nat} (hx : x < 2 ^ 64) (j : Nat) : (18446744073709551615 - x).testBit j = (decide (j < 64) && !x.testBit j) := by
  have : (18446744073709551615 : Nat) - x = 2 ^ 64 - (x + 1) := by omega
  rw [this, Nat.testBit_two_pow_sub_succ hx]

theorem Bits.andNot {l : List Bool} {ws : List Nat} (h : Bits l ws) {p : Nat} (hp : p < l.length) (hi : p / 64 < ws.length) : Bits (l.set p false) (ws.set (p / 64) (ws[p / 64] &&& (18446744073709551615 - 2 ^ (p % 64)))) := by
  have hlt : 2 ^ (p % 64) < 2 ^ 64 := Nat.pow_lt_pow_right (by decide) (Nat.mod_lt _ (by decide))
  refine h.put hp hi false _ (Nat.lt_of_le_of_lt Nat.and_le_left (h.lt _ hi)) fun j hj => ?_
  rw [Nat.testBit_and, testBit_compl hlt, Nat.testBit_two_pow]
  split
  · subst_vars; simp
  · have : decide (p % 64 = j) = false := by simp; omega
    simp [this, hj]

/-- Two rows of words that bear the same bits are the same. -/
theorem Bits.inj {l : List Bool} {ws vs : List Nat} (h : Bits l ws) (k : Bits l vs) : ws = vs := by
  have hl : ws.length = vs.length := by rw [h.len, k.len]
  refine List.ext_getElem hl fun i hi hi' => ?_
  refine Nat.eq_of_testBit_eq fun j => ?_
  by_cases hj : j < 64
  · have e1 := h.bit (64 * i + j) (by omega)
    have e2 := k.bit (64 * i + j) (by omega)
    rw [show (64 * i + j) / 64 = i by omega, show (64 * i + j) % 64 = j by omega] at e1 e2
    simp [hi] at e1
    simp [hi'] at e2
    rw [e1, e2]
  · rw [Nat.testBit_lt_two_pow (Nat.lt_of_lt_of_le (h.lt i hi) (Nat.pow_le_pow_right (by decide) (by omega))), Nat.testBit_lt_two_pow (Nat.lt_of_lt_of_le (k.lt i hi') (Nat.pow_le_pow_right (by decide) (by omega)))]

theorem Bits.zero (n : Nat) : Bits (List.replicate n false) (List.replicate ((n + 63) / 64) 0) := by
  refine ⟨by simp, fun i h => by simp, fun p hp => ?_⟩
  simp only [List.getD_eq_getElem?_getD, List.getElem?_replicate]
  split <;> split <;> simp

end Go.Proofs.YtbebjpdbnpdpfaaDoor
