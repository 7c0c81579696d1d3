/- Plain facts on sets of pages: the first place where so many pages stand in a row. No program here. -/
import Derived.Test.YtbebjpdbnpdpfaaDoorM7
set_option linter.unusedVariables false
namespace Go.Proofs.YtbebjpdbnpdpfaaDoor

/-- Where the first run of n pages at least begins; -1: there is none. -/
def runN (l : List Bool) (n : Int) : Int :=
  if n < 1 then -1 else match (runsB l).find? fun r => decide (n ≤ r.2) with | some r => (r.1 : Int) | none => -1

/-- From r on m pages stand in a row. -/
def Row_ (l : List Bool) (m r : Nat) : Prop := ∀ i, i < m → l.getD (r + i) false = true

theorem firstN_false {l : List Bool} {q i : Nat} (h1 : q ≤ i) (h2 : i < firstN l q) : l.getD i false = false := by
  rw [List.getD_eq_getElem?_getD]
  rcases Nat.lt_or_ge i l.length with h | h
  · unfold firstN at h2
    have := List.not_of_lt_findIdx (p := id) (xs := l.drop q) (i := i - q) (by omega)
    simp only [List.getElem_drop, id, show q + (i - q) = i by omega] at this
    rw [List.getElem?_eq_getElem h]
    simpa using this
  · rw [List.getElem?_eq_none h]; rfl
theorem endB_true {l : List Bool} {p i : Nat} (h1 : p ≤ i) (h2 : i < endB l p) (h3 : p ≤ l.length) : l.getD i false = true := by
  have h : i < l.length := Nat.lt_of_lt_of_le h2 (endB_le h3)
  unfold endB at h2
  have := List.not_of_lt_findIdx (p := (!·)) (xs := l.drop p) (i := i - p) (by omega)
  simp only [List.getElem_drop, show p + (i - p) = i by omega] at this
  rw [List.getD_eq_getElem?_getD, List.getElem?_eq_getElem h]
  simpa using this
theorem endB_false (l : List Bool) (p : Nat) (h3 : p ≤ l.length) : l.getD (endB l p) false = false := by
  rw [List.getD_eq_getElem?_getD]
  rcases Nat.lt_or_ge (endB l p) l.length with h | h
  · have hlt : (l.drop p).findIdx (!·) < (l.drop p).length := by unfold endB at h; simp; omega
    have := List.findIdx_getElem (w := hlt)
    simp only [List.getElem_drop] at this
    rw [List.getElem?_eq_getElem h, Option.getD_some]
    exact (Bool.not_eq_true' _).mp this
  · rw [List.getElem?_eq_none h]; rfl

/-- What is found among the runs from q on. -/
theorem find_runs (l : List Bool) (m : Nat) (hm : 1 ≤ m) (d : Nat) : ∀ q, l.length - q ≤ d →
    match (runsAt l q).find? (fun r => decide ((m : Int) ≤ (r.2 : Nat))) with
    | some r => q ≤ r.1 ∧ Row_ l m r.1 ∧ ∀ r', q ≤ r' → r' < r.1 → ¬ Row_ l m r'
    | none => ∀ r', q ≤ r' → ¬ Row_ l m r' := by
  induction d with
  | zero =>
    intro q hq
    have h := firstN_ge l q
    have hn : ¬ firstN l q < l.length := by omega
    rw [runsAt_eq, if_neg hn]
    intro r' hr hR
    have := hR 0 (by omega)
    rw [List.getD_eq_getElem?_getD, List.getElem?_eq_none (by omega)] at this
    cases this
  | succ d ih =>
    intro q hq
    have hge := firstN_ge l q
    have hskip : ∀ r', q ≤ r' → r' < firstN l q → ¬ Row_ l m r' := fun r' h1 h2 hR => by
      have := hR 0 (by omega)
      rw [Nat.add_zero, firstN_false h1 h2] at this
      cases this
    rw [runsAt_eq]
    by_cases h : firstN l q < l.length
    · rw [if_pos h]
      have hend := endB_gt h (firstN_true h)
      rw [List.find?_cons]
      by_cases hlen : m ≤ endB l (firstN l q) - firstN l q
      · have : decide ((m : Int) ≤ ((endB l (firstN l q) - firstN l q : Nat) : Int)) = true := by simp; omega
        simp only [this]
        refine ⟨hge, fun i hi => endB_true (p := firstN l q) (by omega) (by omega) (by omega), hskip⟩
      · have : decide ((m : Int) ≤ ((endB l (firstN l q) - firstN l q : Nat) : Int)) = false := by simp; omega
        simp only [this]
        have ih' := ih (endB l (firstN l q)) (by omega)
        have hin : ∀ r', firstN l q ≤ r' → r' < endB l (firstN l q) → ¬ Row_ l m r' := fun r' h1 h2 hR => by
          have := hR (endB l (firstN l q) - r') (by omega)
          rw [show r' + (endB l (firstN l q) - r') = endB l (firstN l q) by omega, endB_false l _ (by omega)] at this
          cases this
        split
        · rename_i r heq
          rw [heq] at ih'
          obtain ⟨a, b, c⟩ := ih'
          refine ⟨by omega, b, fun r' h1 h2 => ?_⟩
          rcases Nat.lt_or_ge r' (firstN l q) with e | e
          · exact hskip r' h1 e
          · rcases Nat.lt_or_ge r' (endB l (firstN l q)) with e2 | e2
            · exact hin r' e e2
            · exact c r' e2 h2
        · rename_i heq
          rw [heq] at ih'
          intro r' h1
          rcases Nat.lt_or_ge r' (firstN l q) with e | e
          · exact hskip r' h1 e
          · rcases Nat.lt_or_ge r' (endB l (firstN l q)) with e2 | e2
            · exact hin r' e e2
            · exact ih' r' e2
    · rw [if_neg h]
      intro r' h1
      rcases Nat.lt_or_ge r' (firstN l q) with e | e
      · exact hskip r' h1 e
      · intro hR
        have := hR 0 (by omega)
        rw [List.getD_eq_getElem?_getD, List.getElem?_eq_none (by omega)] at this
        cases this

theorem runN_cases (l : List Bool) (m : Nat) (hm : 1 ≤ m) : (∃ r : Nat, runN l (m : Int) = r ∧ Row_ l m r ∧ ∀ r', r' < r → ¬ Row_ l m r') ∨ (runN l (m : Int) = -1 ∧ ∀ r', ¬ Row_ l m r') := by
  have h := find_runs l m hm l.length 0 (by omega)
  unfold runN
  rw [if_neg (by omega), runsB_at]
  split at h
  · rename_i r heq
    exact .inl ⟨r.1, rfl, h.2.1, fun r' hr => h.2.2 r' (Nat.zero_le _) hr⟩
  · rename_i heq
    exact .inr ⟨rfl, fun r' => h r' (Nat.zero_le _)⟩
theorem runN_some {l : List Bool} {m r : Nat} (hm : 1 ≤ m) (h1 : Row_ l m r) (h2 : ∀ r', r' < r → ¬ Row_ l m r') : runN l (m : Int) = r := by
  rcases runN_cases l m hm with ⟨r0, e, a, b⟩ | ⟨_, b⟩
  · rcases Nat.lt_trichotomy r r0 with h | h | h
    · exact absurd h1 (b r h)
    · rw [e, h]
    · exact absurd a (h2 r0 h)
  · exact absurd h1 (b r)
theorem runN_none {l : List Bool} {m : Nat} (hm : 1 ≤ m) (h2 : ∀ r', ¬ Row_ l m r') : runN l (m : Int) = -1 := by
  rcases runN_cases l m hm with ⟨r0, e, a, b⟩ | ⟨e, b⟩
  · exact absurd a (h2 r0)
  · exact e

/-- The streak that ends ahead of p has many pages; no row of m ends ahead of p. -/
structure Streak (l : List Bool) (m p many : Nat) : Prop where
  le : many ≤ p
  lt : many < m
  on : ∀ i, i < many → l.getD (p - 1 - i) false = true
  off : many < p → l.getD (p - 1 - many) false = false
  no : ∀ r, r + m ≤ p → ¬ Row_ l m r

theorem Streak.zero (l : List Bool) (m : Nat) (hm : 1 ≤ m) : Streak l m 0 0 := ⟨Nat.le_refl _, by omega, fun i h => by omega, fun h => by omega, fun r h => by omega⟩
theorem Streak.hit {l : List Bool} {m p many : Nat} (h : Streak l m p many) (ht : l.getD p false = true) (he : many + 1 = m) : runN l (m : Int) = ((p + 1 - m : Nat) : Int) := by
  have := h.le
  refine runN_some (by omega) (fun i hi => ?_) (fun r' hr hR => h.no r' (by omega) hR)
  by_cases e : i + 1 = m
  · rw [show p + 1 - m + i = p by omega]; exact ht
  · have := h.on (m - 2 - i) (by omega)
    rw [show p - 1 - (m - 2 - i) = p + 1 - m + i by omega] at this
    exact this
theorem Streak.more {l : List Bool} {m p many : Nat} (h : Streak l m p many) (ht : l.getD p false = true) (he : many + 1 < m) : Streak l m (p + 1) (many + 1) := by
  have hle := h.le
  refine ⟨by omega, he, fun i hi => ?_, fun hlt => ?_, fun r hr hR => ?_⟩
  · cases i with
    | zero => simpa using ht
    | succ i =>
      have := h.on i (by omega)
      rw [show p + 1 - 1 - (i + 1) = p - 1 - i by omega]
      exact this
  · have := h.off (by omega)
    rw [show p + 1 - 1 - (many + 1) = p - 1 - many by omega]
    exact this
  · by_cases e : r + m ≤ p
    · exact h.no r e hR
    · have h1 : many < p := by omega
      have h2 := h.off h1
      have h3 := hR (p - 1 - many - r) (by omega)
      rw [show r + (p - 1 - many - r) = p - 1 - many by omega, h2] at h3
      cases h3
theorem Streak.broken {l : List Bool} {m p many : Nat} (h : Streak l m p many) (ht : l.getD p false = false) : Streak l m (p + 1) 0 := by
  have := h.lt
  refine ⟨by omega, by omega, fun i hi => by omega, fun hlt => by simpa using ht, fun r hr hR => ?_⟩
  by_cases e : r + m ≤ p
  · exact h.no r e hR
  · have h3 := hR (p - r) (by omega)
    rw [show r + (p - r) = p by omega, ht] at h3
    cases h3
theorem Streak.end_ {l : List Bool} {m many : Nat} (h : Streak l m l.length many) : runN l (m : Int) = -1 := by
  have := h.lt
  refine runN_none (by omega) (fun r hR => ?_)
  by_cases e : r + m ≤ l.length
  · exact h.no r e hR
  · have h3 := hR (m - 1) (by omega)
    rw [List.getD_eq_getElem?_getD, List.getElem?_eq_none (by omega)] at h3
    cases h3

end Go.Proofs.YtbebjpdbnpdpfaaDoor
