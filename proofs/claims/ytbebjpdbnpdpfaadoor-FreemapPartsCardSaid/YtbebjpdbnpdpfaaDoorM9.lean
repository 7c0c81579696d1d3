/- Plain facts on sets of pages: the runs, counted page by page. No program here. -/
import Derived.Test.YtbebjpdbnpdpfaaDoorM7
set_option linter.unusedVariables false
namespace Go.Proofs.YtbebjpdbnpdpfaaDoor

theorem firstN_at {l : List Bool} {p : Nat} (h : l.getD p false = true) : firstN l p = p := by
  have hp : p < l.length := by
    rcases Nat.lt_or_ge p l.length with h' | h'
    · exact h'
    · rw [List.getD_eq_getElem?_getD, List.getElem?_eq_none h'] at h; cases h
  rw [List.getD_eq_getElem?_getD, List.getElem?_eq_getElem hp] at h
  unfold firstN
  rw [List.drop_eq_getElem_cons hp, List.findIdx_cons]
  simp at h
  simp [h]
theorem firstN_skip {l : List Bool} {p : Nat} (hp : p < l.length) (h : l.getD p false = false) : firstN l p = firstN l (p + 1) := by
  rw [List.getD_eq_getElem?_getD, List.getElem?_eq_getElem hp] at h
  unfold firstN
  rw [List.drop_eq_getElem_cons hp, List.findIdx_cons]
  simp at h
  simp [h]
  omega
theorem endB_more {l : List Bool} {p : Nat} (h : l.getD p false = true) : endB l p = endB l (p + 1) := by
  have hp : p < l.length := by
    rcases Nat.lt_or_ge p l.length with h' | h'
    · exact h'
    · rw [List.getD_eq_getElem?_getD, List.getElem?_eq_none h'] at h; cases h
  rw [List.getD_eq_getElem?_getD, List.getElem?_eq_getElem hp] at h
  unfold endB
  rw [List.drop_eq_getElem_cons hp, List.findIdx_cons]
  simp at h
  simp [h]
  omega
theorem endB_at {l : List Bool} {p : Nat} (h : l.getD p false = false) : endB l p = p := by
  unfold endB
  rcases Nat.lt_or_ge p l.length with hp | hp
  · rw [List.getD_eq_getElem?_getD, List.getElem?_eq_getElem hp] at h
    rw [List.drop_eq_getElem_cons hp, List.findIdx_cons]
    simp at h
    simp [h]
  · rw [List.drop_eq_nil_iff.2 hp]; rfl
theorem endB_eq {l : List Bool} {k : Nat} (hk : l.getD k false = false) (n : Nat) : ∀ p, p + n = k → (∀ i, p ≤ i → i < k → l.getD i false = true) → endB l p = k := by
  induction n with
  | zero => intro p hp _; obtain rfl : p = k := by omega
            exact endB_at hk
  | succ n ih =>
    intro p hp h
    rw [endB_more (h p (by omega) (by omega))]
    exact ih (p + 1) (by omega) (fun i h1 h2 => h i (by omega) h2)

/-- The last run is longer by one. -/
def bump (rs : List (Nat × Nat)) : List (Nat × Nat) := match rs.reverse with | [] => [] | x :: t => t.reverse ++ [(x.1, x.2 + 1)]
theorem bump_snoc (rs : List (Nat × Nat)) (x : Nat × Nat) : bump (rs ++ [x]) = rs ++ [(x.1, x.2 + 1)] := by
  unfold bump; rw [List.reverse_append]; simp
/-- The runs of the first k pages. -/
def runsTo (l : List Bool) : Nat → List (Nat × Nat)
  | 0 => []
  | k + 1 => if l.getD k false then (if k = 0 ∨ l.getD (k - 1) false = false then runsTo l k ++ [(k, 1)] else bump (runsTo l k)) else runsTo l k

/-- Where the page before k is in it, the last run ends there. -/
def Open_ (l : List Bool) (k : Nat) : Prop := ∃ rs p, p < k ∧ runsTo l k = rs ++ [(p, k - p)] ∧ runsB l = rs ++ runsAt l p ∧ ∀ i, p ≤ i → i < k → l.getD i false = true

theorem runsTo_inv (l : List Bool) (k : Nat) : k ≤ l.length → if k = 0 ∨ l.getD (k - 1) false = false then runsB l = runsTo l k ++ runsAt l k else Open_ l k := by
  induction k with
  | zero => intro _; rw [if_pos (.inl rfl)]; rfl
  | succ k ih =>
    intro hk
    have ih := ih (by omega)
    have hk0 : k + 1 ≠ 0 := by omega
    rw [Nat.add_sub_cancel]
    have hstep : ∀ rs, runsB l = rs ++ runsAt l k → l.getD k false = false → runsB l = rs ++ runsAt l (k + 1) := by
      intro rs h hf
      rw [h, runsAt_eq l k, runsAt_eq l (k + 1), firstN_skip (by omega) hf]
    cases hb : l.getD k false with
    | true =>
      rw [if_neg (by simp)]
      by_cases hc : k = 0 ∨ l.getD (k - 1) false = false
      · rw [if_pos hc] at ih
        refine ⟨runsTo l k, k, by omega, ?_, ih, fun i h1 h2 => ?_⟩
        · rw [runsTo, if_pos hb, if_pos hc]; congr 3; omega
        · obtain rfl : i = k := by omega
          exact hb
      · rw [if_neg hc] at ih
        obtain ⟨rs, p, h1, h2, h3, h4⟩ := ih
        refine ⟨rs, p, by omega, ?_, h3, fun i h5 h6 => ?_⟩
        · rw [runsTo, if_pos hb, if_neg hc, h2, bump_snoc]
          congr 3
          show k - p + 1 = k + 1 - p
          omega
        · by_cases e : i = k
          · subst e; exact hb
          · exact h4 i h5 (by omega)
    | false =>
      rw [if_pos (.inr rfl)]
      have e : runsTo l (k + 1) = runsTo l k := by rw [runsTo, if_neg (by rw [hb]; simp)]
      rw [e]
      refine hstep _ ?_ hb
      by_cases hc : k = 0 ∨ l.getD (k - 1) false = false
      · rw [if_pos hc] at ih; exact ih
      · rw [if_neg hc] at ih
        obtain ⟨rs, p, h1, h2, h3, h4⟩ := ih
        rw [h3, h2, runsAt_eq l p, firstN_at (h4 p (Nat.le_refl _) h1), if_pos (by omega), endB_eq hb (k - p) p (by omega) h4]
        simp

theorem runsTo_open {l : List Bool} {k : Nat} (hk : k ≤ l.length) (h : ¬ (k = 0 ∨ l.getD (k - 1) false = false)) : ∃ rs p n, runsTo l k = rs ++ [(p, n)] ∧ n ≤ k := by
  have := runsTo_inv l k hk
  rw [if_neg h] at this
  obtain ⟨rs, p, h1, h2, _⟩ := this
  exact ⟨rs, p, k - p, h2, by omega⟩

theorem runsTo_all (l : List Bool) : runsTo l l.length = runsB l := by
  have := runsTo_inv l l.length (Nat.le_refl _)
  have he : runsAt l l.length = [] := by
    rw [runsAt_eq, if_neg]
    have := firstN_ge l l.length
    omega
  split at this
  · rw [this, he, List.append_nil]
  · obtain ⟨rs, p, h1, h2, h3, h4⟩ := this
    have hb : l.getD l.length false = false := by rw [List.getD_eq_getElem?_getD, List.getElem?_eq_none (Nat.le_refl _)]; rfl
    rw [h3, h2, runsAt_eq l p, firstN_at (h4 p (Nat.le_refl _) h1), if_pos h1, endB_eq hb (l.length - p) p (by omega) h4, he]

theorem runsTo_len (l : List Bool) (k : Nat) : (runsTo l k).length ≤ k := by
  induction k with
  | zero => simp [runsTo]
  | succ k ih =>
    rw [runsTo]
    split
    · split
      · simp; omega
      · have : ∀ rs : List (Nat × Nat), (bump rs).length = rs.length := by
          intro rs
          rcases List.eq_nil_or_concat rs with h | ⟨t, x, h⟩
          · subst h; rfl
          · rw [h, List.concat_eq_append, bump_snoc]; simp
        rw [this]; omega
    · omega

end Go.Proofs.YtbebjpdbnpdpfaaDoor
