/- Plain facts on sets of pages: the runs in it. No program here. -/
import Derived.Test.YtbebjpdbnpdpfaaDoorM5
import Derived.Test.YtbebjpdbnpdpfaaDoorM6
set_option linter.unusedVariables false
namespace Go.Proofs.YtbebjpdbnpdpfaaDoor

/-- The lowest page from q on that is in it; past all: there is none. -/
def firstN (l : List Bool) (q : Nat) : Nat := q + (l.drop q).findIdx id
/-- The lowest page from p on that is not in it; or how many there are. -/
def endB (l : List Bool) (p : Nat) : Nat := p + (l.drop p).findIdx (!·)

def runsFrom (l : List Bool) : Nat → Nat → List (Nat × Nat)
  | 0, _ => []
  | f + 1, q => if firstN l q < l.length then (firstN l q, endB l (firstN l q) - firstN l q) :: runsFrom l f (endB l (firstN l q)) else []
/-- Its runs: where each begins, how long it is. -/
def runsB (l : List Bool) : List (Nat × Nat) := runsFrom l (l.length + 1) 0

theorem firstB_N (l : List Bool) (q : Nat) : firstB l (q : Int) = if firstN l q < l.length then (firstN l q : Int) else -1 := by
  unfold firstB firstN
  simp only [Int.toNat_natCast]

theorem findIdx_le (l : List Bool) (f : Bool → Bool) : l.findIdx f ≤ l.length := List.findIdx_le_length

theorem endB_le {l : List Bool} {p : Nat} (h : p ≤ l.length) : endB l p ≤ l.length := by
  have := findIdx_le (l.drop p) (!·)
  unfold endB
  simp only [List.length_drop] at this
  omega
theorem firstN_ge (l : List Bool) (q : Nat) : q ≤ firstN l q := Nat.le_add_right _ _
theorem firstN_true {l : List Bool} {q : Nat} (h : firstN l q < l.length) : l.getD (firstN l q) false = true := by
  have hlt : (l.drop q).findIdx id < (l.drop q).length := by unfold firstN at h; simp; omega
  have := List.findIdx_getElem (w := hlt)
  simp only [List.getElem_drop, id] at this
  unfold firstN at h ⊢
  rw [List.getD_eq_getElem?_getD, List.getElem?_eq_getElem h]
  exact this
theorem endB_gt {l : List Bool} {p : Nat} (h : p < l.length) (ht : l.getD p false = true) : p < endB l p := by
  unfold endB
  have : (l.drop p).findIdx (!·) ≠ 0 := by
    intro e
    have hlt : (l.drop p).findIdx (!·) < (l.drop p).length := by rw [e]; simp; omega
    have := List.findIdx_getElem (w := hlt)
    simp only [List.getElem_drop, e, Nat.add_zero] at this
    rw [List.getD_eq_getElem?_getD, List.getElem?_eq_getElem h] at ht
    simp at ht
    rw [ht] at this
    cases this
  omega

theorem endB_first (l : List Bool) (p : Nat) (hp : p ≤ l.length) : firstB (notB l) (p : Int) = if endB l p < l.length then (endB l p : Int) else -1 := by
  rw [firstB_N]
  have : firstN (notB l) p = endB l p := by
    unfold firstN endB notB
    rw [← List.map_drop, List.findIdx_map]
    rfl
  rw [this]
  simp

theorem runsFrom_fuel (l : List Bool) (f : Nat) : ∀ g q, l.length < f + q → l.length < g + q → runsFrom l f q = runsFrom l g q := by
  induction f with
  | zero =>
    intro g q h1 h2
    have : ¬ firstN l q < l.length := by have := firstN_ge l q; omega
    cases g with
    | zero => rfl
    | succ g => simp [runsFrom, this]
  | succ f ih =>
    intro g q h1 h2
    cases g with
    | zero =>
      have : ¬ firstN l q < l.length := by have := firstN_ge l q; omega
      simp [runsFrom, this]
    | succ g =>
      unfold runsFrom
      by_cases h : firstN l q < l.length
      · have h3 := endB_gt h (firstN_true h)
        have h4 := firstN_ge l q
        rw [if_pos h, if_pos h, ih g _ (by omega) (by omega)]
      · rw [if_neg h, if_neg h]

/-- The runs from q on. -/
def runsAt (l : List Bool) (q : Nat) : List (Nat × Nat) := runsFrom l (l.length + 1) q
theorem runsAt_eq (l : List Bool) (q : Nat) : runsAt l q = if firstN l q < l.length then (firstN l q, endB l (firstN l q) - firstN l q) :: runsAt l (endB l (firstN l q)) else [] := by
  unfold runsAt
  rw [runsFrom]
  split
  · rename_i h
    have h3 := endB_gt h (firstN_true h)
    rw [runsFrom_fuel l l.length (l.length + 1) _ (by omega) (by omega)]
  · rfl
theorem runsB_at (l : List Bool) : runsB l = runsAt l 0 := rfl

/-- Behind i runs come those from q on. -/
theorem runs_step {l : List Bool} {i q : Nat} (h : (runsB l).drop i = runsAt l q) (hp : firstN l q < l.length) :
    (runsB l)[i]? = some (firstN l q, endB l (firstN l q) - firstN l q) ∧ (runsB l).drop (i + 1) = runsAt l (endB l (firstN l q)) := by
  rw [runsAt_eq, if_pos hp] at h
  constructor
  · rw [← List.head?_drop, h]; rfl
  · rw [← List.drop_drop, h]; rfl
theorem runs_end {l : List Bool} {i q : Nat} (h : (runsB l).drop i = runsAt l q) (hp : ¬ firstN l q < l.length) : (runsB l).length ≤ i := by
  rw [runsAt_eq, if_neg hp] at h
  exact List.drop_eq_nil_iff.1 h

end Go.Proofs.YtbebjpdbnpdpfaaDoor
