/- Plain arithmetic: how many bits a word has, by adding neighbours; where its lowest bit is. No program here. -/
namespace Go.Proofs.YtbebjpdbnpdpfaaDoor
namespace Pop
set_option linter.unusedVariables false

/-- The sum of the lowest n digits to the base b. -/
def dsum (b : Nat) : Nat → Nat → Nat
  | 0, _ => 0
  | n + 1, x => x % b + dsum b n (x / b)
/-- The lowest n digits are at most c. -/
def dle (b c : Nat) : Nat → Nat → Prop
  | 0, _ => True
  | n + 1, x => x % b ≤ c ∧ dle b c n (x / b)
/-- n digits m. -/
def rep (b m : Nat) : Nat → Nat
  | 0 => 0
  | n + 1 => m + b * rep b m n

theorem rep_succ (b m n : Nat) : rep b m (n + 1) = m + b * rep b m n := rfl

theorem and_digit (k m M y : Nat) (hm : m < 2 ^ k) : y &&& (m + 2 ^ k * M) = (y % 2 ^ k &&& m) + 2 ^ k * (y / 2 ^ k &&& M) := by
  have h1 : y % 2 ^ k &&& m < 2 ^ k := Nat.lt_of_le_of_lt Nat.and_le_right hm
  refine Nat.eq_of_testBit_eq fun j => ?_
  rw [Nat.add_comm m, Nat.add_comm (y % 2 ^ k &&& m), Nat.testBit_and, Nat.testBit_two_pow_mul_add _ hm, Nat.testBit_two_pow_mul_add _ h1]
  split
  · rename_i hj
    rw [Nat.testBit_and, Nat.testBit_mod_two_pow]
    simp [hj]
  · rename_i hj
    rw [Nat.testBit_and, Nat.testBit_div_two_pow]
    congr 2
    omega

def s1 (n x : Nat) : Nat := (x / 2 &&& rep 4 1 n) + (x &&& rep 4 1 n)
def s2 (n x : Nat) : Nat := (x / 4 &&& rep 16 3 n) + (x &&& rep 16 3 n)
def s3 (n x : Nat) : Nat := (x / 16 + x) &&& rep 256 15 n

theorem and3 (x : Nat) : x &&& 3 = x % 4 := Nat.and_two_pow_sub_one_eq_mod x 2
theorem and1 (x : Nat) : x &&& 1 = x % 2 := Nat.and_two_pow_sub_one_eq_mod x 1
theorem and15 (x : Nat) : x &&& 15 = x % 16 := Nat.and_two_pow_sub_one_eq_mod x 4

theorem s1_succ (n x : Nat) : s1 (n + 1) x = (x / 2 % 2 + x % 2) + 4 * s1 n (x / 4) := by
  unfold s1
  rw [rep_succ]
  have a := and_digit 2 1 (rep 4 1 n) (x / 2) (by decide)
  have b := and_digit 2 1 (rep 4 1 n) x (by decide)
  simp only [show 2 ^ 2 = 4 from rfl] at a b
  rw [a, b, and1, and1, show x / 2 / 4 = x / 4 / 2 by omega]
  omega
theorem s2_succ (n x : Nat) : s2 (n + 1) x = (x / 4 % 4 + x % 4) + 16 * s2 n (x / 16) := by
  unfold s2
  rw [rep_succ]
  have a := and_digit 4 3 (rep 16 3 n) (x / 4) (by decide)
  have b := and_digit 4 3 (rep 16 3 n) x (by decide)
  simp only [show 2 ^ 4 = 16 from rfl] at a b
  rw [a, b, and3, and3, show x / 4 / 16 = x / 16 / 4 by omega]
  omega
theorem s3_succ (n x : Nat) (h0 : x % 16 ≤ 4) (h1 : x / 16 % 16 ≤ 4) (h2 : x / 256 % 16 ≤ 4) : s3 (n + 1) x = (x / 16 % 16 + x % 16) + 256 * s3 n (x / 256) := by
  unfold s3
  rw [rep_succ]
  have a := and_digit 8 15 (rep 256 15 n) (x / 16 + x) (by decide)
  simp only [show 2 ^ 8 = 256 from rfl] at a
  have e0 : x / 16 / 16 = x / 256 := by omega
  have e1 : x / 16 = 16 * (x / 256) + x / 16 % 16 := by omega
  have e2 : x = 16 * (x / 16) + x % 16 := by omega
  have e3 : (x / 16 + x) / 256 = x / 256 / 16 + x / 256 := by omega
  have e4 : (x / 16 + x) % 256 % 16 = x / 16 % 16 + x % 16 := by omega
  rw [a, and15, e3, e4]

theorem s1_sum (n : Nat) : ∀ x, dsum 4 n (s1 n x) = dsum 2 (2 * n) x ∧ dle 4 2 n (s1 n x) ∧ s1 n x < 4 ^ n := by
  induction n with
  | zero => intro x; simp [dsum, dle, s1, rep]
  | succ n ih =>
    intro x
    obtain ⟨a, b, c⟩ := ih (x / 4)
    rw [s1_succ]
    have e1 : (x / 2 % 2 + x % 2 + 4 * s1 n (x / 4)) % 4 = x / 2 % 2 + x % 2 := by omega
    have e2 : (x / 2 % 2 + x % 2 + 4 * s1 n (x / 4)) / 4 = s1 n (x / 4) := by omega
    refine ⟨?_, ?_, ?_⟩
    · show _ % 4 + dsum 4 n (_ / 4) = dsum 2 (2 * n + 1 + 1) x
      rw [e1, e2, a]
      show _ = x % 2 + (x / 2 % 2 + dsum 2 (2 * n) (x / 2 / 2))
      rw [show x / 2 / 2 = x / 4 by omega]
      omega
    · show _ % 4 ≤ 2 ∧ dle 4 2 n (_ / 4)
      rw [e1, e2]
      exact ⟨by omega, b⟩
    · rw [Nat.pow_succ]; omega

theorem s2_sum (n : Nat) : ∀ x, dle 4 2 (2 * n) x → dsum 16 n (s2 n x) = dsum 4 (2 * n) x ∧ dle 16 4 n (s2 n x) ∧ s2 n x < 16 ^ n := by
  induction n with
  | zero => intro x _; simp [dsum, dle, s2, rep]
  | succ n ih =>
    intro x hx
    obtain ⟨h0, h1, h2⟩ : x % 4 ≤ 2 ∧ x / 4 % 4 ≤ 2 ∧ dle 4 2 (2 * n) (x / 4 / 4) := hx
    rw [show x / 4 / 4 = x / 16 by omega] at h2
    obtain ⟨a, b, c⟩ := ih (x / 16) h2
    rw [s2_succ]
    have e1 : (x / 4 % 4 + x % 4 + 16 * s2 n (x / 16)) % 16 = x / 4 % 4 + x % 4 := by omega
    have e2 : (x / 4 % 4 + x % 4 + 16 * s2 n (x / 16)) / 16 = s2 n (x / 16) := by omega
    refine ⟨?_, ?_, ?_⟩
    · show _ % 16 + dsum 16 n (_ / 16) = dsum 4 (2 * n + 1 + 1) x
      rw [e1, e2, a]
      show _ = x % 4 + (x / 4 % 4 + dsum 4 (2 * n) (x / 4 / 4))
      rw [show x / 4 / 4 = x / 16 by omega]
      omega
    · show _ % 16 ≤ 4 ∧ dle 16 4 n (_ / 16)
      rw [e1, e2]
      exact ⟨by omega, b⟩
    · rw [Nat.pow_succ]; omega

theorem dle_zero_digit {b c : Nat} (n : Nat) (x : Nat) (h : dle b c n x) (hx : x < b ^ n) : x % b ≤ c := by
  cases n with
  | zero => simp at hx; subst hx; simp
  | succ n => exact h.1

theorem s3_sum (n : Nat) : ∀ x, x < 16 ^ (2 * n) → dle 16 4 (2 * n) x → dsum 256 n (s3 n x) = dsum 16 (2 * n) x ∧ dle 256 8 n (s3 n x) ∧ s3 n x < 256 ^ n := by
  induction n with
  | zero => intro x _ _; simp [dsum, dle, s3, rep]
  | succ n ih =>
    intro x hlt hx
    obtain ⟨h0, h1, h2⟩ : x % 16 ≤ 4 ∧ x / 16 % 16 ≤ 4 ∧ dle 16 4 (2 * n) (x / 16 / 16) := hx
    rw [show x / 16 / 16 = x / 256 by omega] at h2
    have hlt' : x / 256 < 16 ^ (2 * n) := by
      rw [show 2 * (n + 1) = 2 * n + 2 by omega, Nat.pow_add] at hlt
      simp only [show 16 ^ 2 = 256 from rfl] at hlt
      omega
    obtain ⟨a, b, c⟩ := ih (x / 256) hlt' h2
    rw [s3_succ n x h0 h1 (dle_zero_digit _ _ h2 hlt')]
    have e1 : (x / 16 % 16 + x % 16 + 256 * s3 n (x / 256)) % 256 = x / 16 % 16 + x % 16 := by omega
    have e2 : (x / 16 % 16 + x % 16 + 256 * s3 n (x / 256)) / 256 = s3 n (x / 256) := by omega
    refine ⟨?_, ?_, ?_⟩
    · show _ % 256 + dsum 256 n (_ / 256) = dsum 16 (2 * n + 1 + 1) x
      rw [e1, e2, a]
      show _ = x % 16 + (x / 16 % 16 + dsum 16 (2 * n) (x / 16 / 16))
      rw [show x / 16 / 16 = x / 256 by omega]
      omega
    · show _ % 256 ≤ 8 ∧ dle 256 8 n (_ / 256)
      rw [e1, e2]
      exact ⟨by omega, b⟩
    · rw [Nat.pow_succ]; omega

/-- A number by its bytes, the lowest first. -/
def val : List Nat → Nat
  | [] => 0
  | d :: ds => d + 256 * val ds
def digs : Nat → Nat → List Nat
  | 0, _ => []
  | n + 1, x => x % 256 :: digs n (x / 256)
theorem digs_len (n : Nat) : ∀ x, (digs n x).length = n := by
  induction n with
  | zero => intro x; rfl
  | succ n ih => intro x; simp [digs, ih]
theorem val_digs (n : Nat) : ∀ x, x < 256 ^ n → val (digs n x) = x := by
  induction n with
  | zero => intro x h; simp at h; subst h; rfl
  | succ n ih =>
    intro x h
    rw [Nat.pow_succ] at h
    show x % 256 + 256 * val (digs n (x / 256)) = x
    rw [ih _ (by omega)]
    omega
theorem dsum_digs (n : Nat) : ∀ x, dsum 256 n x = (digs n x).sum := by
  induction n with
  | zero => intro x; rfl
  | succ n ih => intro x; simp [dsum, digs, ih]
theorem dle_digs (n : Nat) : ∀ x, dle 256 8 n x → ∀ d ∈ digs n x, d ≤ 8 := by
  induction n with
  | zero => intro x _ d hd; cases hd
  | succ n ih =>
    intro x h d hd
    rcases List.mem_cons.1 hd with rfl | hd
    · exact h.1
    · exact ih _ h.2 d hd
theorem val_shift (d : Nat) (ds : List Nat) (h : d < 256) : val (d :: ds) / 256 = val ds := by
  show (d + 256 * val ds) / 256 = val ds
  omega
theorem val_cons (d : Nat) (ds : List Nat) : val (d :: ds) = d + 256 * val ds := rfl
theorem val_lt (b : Nat) : ∀ ds : List Nat, (∀ d ∈ ds, d < 256) → val ds < 256 ^ ds.length := by
  intro ds
  induction ds with
  | nil => intro _; decide
  | cons d ds ih =>
    intro h
    have := ih (fun x hx => h x (List.mem_cons_of_mem _ hx))
    have hd := h d (List.mem_cons_self ..)
    rw [val_cons, List.length_cons, Nat.pow_succ]
    omega
theorem val_add (a b : Nat) (x y : List Nat) (z : Nat) (h : val x + val y = z) : val (a :: x) + val (b :: y) = a + b + 256 * z := by
  rw [val_cons, val_cons]; omega

theorem sum8 (c0 c1 c2 c3 c4 c5 c6 c7 : Nat) (h : ∀ d ∈ [c0, c1, c2, c3, c4, c5, c6, c7], d ≤ 8) (c : Nat) (hc : c = val [c0, c1, c2, c3, c4, c5, c6, c7]) :
    (c + c / 256) < 256 ^ 8 ∧ (c + c / 256) + (c + c / 256) / 65536 < 256 ^ 8 ∧ ((c + c / 256) + (c + c / 256) / 65536) + ((c + c / 256) + (c + c / 256) / 65536) / 4294967296 < 9223372036854775808 ∧
    (((c + c / 256) + (c + c / 256) / 65536) + ((c + c / 256) + (c + c / 256) / 65536) / 4294967296) % 128 = c0 + c1 + c2 + c3 + c4 + c5 + c6 + c7 ∧ c7 ≤ 8 := by
  simp only [List.mem_cons, List.not_mem_nil, or_false, forall_eq_or_imp, forall_eq] at h
  obtain ⟨h0, h1, h2, h3, h4, h5, h6, h7⟩ := h
  have a1 : c / 256 = val [c1, c2, c3, c4, c5, c6, c7] := by rw [hc]; exact val_shift _ _ (by omega)
  have a2 : c + c / 256 = val [c0 + c1, c1 + c2, c2 + c3, c3 + c4, c4 + c5, c5 + c6, c6 + c7, c7] := by
    rw [a1, hc]; simp only [val]; omega
  have a3 : (c + c / 256) / 65536 = val [c2 + c3, c3 + c4, c4 + c5, c5 + c6, c6 + c7, c7] := by
    rw [show (65536 : Nat) = 256 * 256 from rfl, ← Nat.div_div_eq_div_mul, a2, val_shift _ _ (by omega), val_shift _ _ (by omega)]
  have a4 : (c + c / 256) + (c + c / 256) / 65536 = val [c0 + c1 + c2 + c3, c1 + c2 + c3 + c4, c2 + c3 + c4 + c5, c3 + c4 + c5 + c6, c4 + c5 + c6 + c7, c5 + c6 + c7, c6 + c7, c7] := by
    rw [a3, a2]; simp only [val]; omega
  have a5 : ((c + c / 256) + (c + c / 256) / 65536) / 4294967296 = val [c4 + c5 + c6 + c7, c5 + c6 + c7, c6 + c7, c7] := by
    rw [show (4294967296 : Nat) = 256 * 256 * 256 * 256 from rfl, ← Nat.div_div_eq_div_mul, ← Nat.div_div_eq_div_mul, ← Nat.div_div_eq_div_mul, a4, val_shift _ _ (by omega), val_shift _ _ (by omega), val_shift _ _ (by omega), val_shift _ _ (by omega)]
  have a6 : ((c + c / 256) + (c + c / 256) / 65536) + ((c + c / 256) + (c + c / 256) / 65536) / 4294967296 = val [c0 + c1 + c2 + c3 + c4 + c5 + c6 + c7, c1 + c2 + c3 + c4 + c5 + c6 + c7, c2 + c3 + c4 + c5 + c6 + c7, c3 + c4 + c5 + c6 + c7, c4 + c5 + c6 + c7, c5 + c6 + c7, c6 + c7, c7] := by
    rw [a5, a4]; simp only [val]; omega
  rw [a6, a4, a2]
  have lt := fun (l : List Nat) (hl : l.length = 8) (h : ∀ d ∈ l, d < 256) => hl ▸ val_lt 0 l h
  refine ⟨lt _ rfl ?_, lt _ rfl ?_, ?_, ?_, h7⟩
  · simp only [List.mem_cons, List.not_mem_nil, or_false, forall_eq_or_imp, forall_eq]; omega
  · simp only [List.mem_cons, List.not_mem_nil, or_false, forall_eq_or_imp, forall_eq]; omega
  · simp only [val]; omega
  · rw [val_cons]
    generalize val _ = v
    omega

/-- The bytes of a word, added. -/
theorem last (c : Nat) (h : dle 256 8 8 c) (hc : c < 256 ^ 8) :
    (c + c / 256) < 256 ^ 8 ∧ (c + c / 256) + (c + c / 256) / 65536 < 256 ^ 8 ∧ ((c + c / 256) + (c + c / 256) / 65536) + ((c + c / 256) + (c + c / 256) / 65536) / 4294967296 < 9223372036854775808 ∧
    (((c + c / 256) + (c + c / 256) / 65536) + ((c + c / 256) + (c + c / 256) / 65536) / 4294967296) % 128 = dsum 256 8 c := by
  have h1 := dle_digs 8 c h
  have h2 := val_digs 8 c hc
  have h3 := dsum_digs 8 c
  have h4 := digs_len 8 c
  generalize digs 8 c = l at *
  match l, h4 with
  | [c0, c1, c2, c3, c4, c5, c6, c7], _ =>
    obtain ⟨a, b, d, e, _⟩ := sum8 c0 c1 c2 c3 c4 c5 c6 c7 h1 c h2.symm
    refine ⟨a, b, d, ?_⟩
    rw [e, h3]
    simp
    omega

/-- All steps together. -/
def ones (x : Nat) : Nat :=
  let c := s3 8 (s2 16 (s1 32 x))
  (((c + c / 256) + (c + c / 256) / 65536) + ((c + c / 256) + (c + c / 256) / 65536) / 4294967296) % 128

theorem ones_eq (x : Nat) : ones x = dsum 2 64 x := by
  obtain ⟨a1, b1, c1⟩ := s1_sum 32 x
  obtain ⟨a2, b2, c2⟩ := s2_sum 16 (s1 32 x) b1
  obtain ⟨a3, b3, c3⟩ := s3_sum 8 (s2 16 (s1 32 x)) c2 b2
  have := (last _ b3 c3).2.2.2
  exact this.trans (a3.trans (a2.trans a1))

/-- How many bits a word has. -/
theorem dsum_bits (n : Nat) : ∀ x, dsum 2 n x = (List.range n).countP fun i => x.testBit i := by
  induction n with
  | zero => intro x; rfl
  | succ n ih =>
    intro x
    rw [List.range_succ_eq_map, List.countP_cons, List.countP_map]
    show x % 2 + dsum 2 n (x / 2) = _
    rw [ih]
    have : ((fun i => x.testBit i) ∘ Nat.succ) = fun i => (x / 2).testBit i := by
      funext i
      simp [Nat.testBit_succ]
    rw [this, Nat.testBit_zero]
    by_cases h : x % 2 = 1
    · simp [h]; omega
    · have : x % 2 = 0 := by omega
      simp [this]
end Pop
end Go.Proofs.YtbebjpdbnpdpfaaDoor
