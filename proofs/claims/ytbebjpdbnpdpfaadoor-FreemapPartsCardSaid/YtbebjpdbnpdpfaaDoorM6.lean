/- Plain facts on sets of pages: the pages in it, one behind the other. No program here. -/
import Derived.Test.YtbebjpdbnpdpfaaDoorM4
set_option linter.unusedVariables false
namespace Go.Proofs.YtbebjpdbnpdpfaaDoor

/-- The pages in it, rising. -/
def elems (l : List Bool) : List Nat := (List.range l.length).filter fun p => l.getD p false
def below (l : List Bool) (p : Nat) : Nat := ((List.range p).filter fun p => l.getD p false).length

theorem elems_mem {l : List Bool} {p : Nat} : p ∈ elems l ↔ l.getD p false = true := by
  unfold elems
  rw [List.mem_filter, List.mem_range]
  constructor
  · exact fun h => h.2
  · intro h
    refine ⟨?_, h⟩
    rcases Nat.lt_or_ge p l.length with h' | h'
    · exact h'
    · rw [List.getD_eq_getElem?_getD, List.getElem?_eq_none h'] at h; cases h
theorem elems_nodup (l : List Bool) : (elems l).Nodup := List.nodup_range.sublist List.filter_sublist
theorem elems_at {l : List Bool} {p : Nat} (h : l.getD p false = true) : (elems l)[below l p]? = some p := by
  have hp : p < l.length := List.mem_range.1 (List.mem_filter.1 (elems_mem.2 h)).1
  obtain ⟨d, hd⟩ : ∃ d, l.length = p + (d + 1) := ⟨l.length - p - 1, by omega⟩
  unfold elems below
  rw [hd, List.range_add, List.filter_append, List.getElem?_append_right (Nat.le_refl _), Nat.sub_self, List.range_succ_eq_map, List.map_cons, List.filter_cons, Nat.add_zero, h, if_pos rfl]
  rfl
theorem elems_get {l : List Bool} {i p : Nat} (h : (elems l)[i]? = some p) : l.getD p false = true ∧ below l p = i := by
  have hm : p ∈ elems l := List.mem_of_getElem? h
  have ht := elems_mem.1 hm
  refine ⟨ht, ?_⟩
  have h2 := elems_at ht
  obtain ⟨a1, a2⟩ := List.getElem?_eq_some_iff.1 h
  obtain ⟨b1, b2⟩ := List.getElem?_eq_some_iff.1 h2
  have hp := List.pairwise_iff_getElem.1 (elems_nodup l)
  rcases Nat.lt_trichotomy (below l p) i with h | h | h
  · exact absurd (b2.trans a2.symm) (hp _ _ b1 a1 h)
  · exact h
  · exact absurd (a2.trans b2.symm) (hp _ _ a1 b1 h)
theorem elems_none {l : List Bool} {q : Nat} (h : ∀ i, q ≤ i → l.getD i false = false) : (elems l).length = below l q := by
  unfold elems below
  by_cases hq : q ≤ l.length
  · obtain ⟨d, hd⟩ : ∃ d, l.length = q + d := ⟨l.length - q, by omega⟩
    rw [hd, List.range_add, List.filter_append, List.length_append]
    have : (List.map (q + ·) (List.range d)).filter (fun p => l.getD p false) = [] := by
      rw [List.filter_eq_nil_iff]
      intro a ha
      obtain ⟨x, _, rfl⟩ := List.mem_map.1 ha
      rw [h _ (by omega)]
      simp
    rw [this]
    simp
  · obtain ⟨d, hd⟩ : ∃ d, q = l.length + d := ⟨q - l.length, by omega⟩
    rw [hd, List.range_add, List.filter_append, List.length_append]
    have : (List.map (l.length + ·) (List.range d)).filter (fun p => l.getD p false) = [] := by
      rw [List.filter_eq_nil_iff]
      intro a ha
      obtain ⟨x, _, rfl⟩ := List.mem_map.1 ha
      simp
    rw [this]
    simp
theorem below_skip {l : List Bool} {q r : Nat} (hqr : q ≤ r) (h : ∀ i, q ≤ i → i < r → l.getD i false = false) : below l r = below l q := by
  unfold below
  obtain ⟨d, rfl⟩ : ∃ d, r = q + d := ⟨r - q, by omega⟩
  rw [List.range_add, List.filter_append, List.length_append]
  have : (List.map (q + ·) (List.range d)).filter (fun p => l.getD p false) = [] := by
    rw [List.filter_eq_nil_iff]
    intro a ha
    obtain ⟨x, hx, rfl⟩ := List.mem_map.1 ha
    have := List.mem_range.1 hx
    rw [h _ (by omega) (by omega)]
    simp
  rw [this]
  simp
theorem below_succ {l : List Bool} {p : Nat} (h : l.getD p false = true) : below l (p + 1) = below l p + 1 := by
  unfold below
  rw [show List.range (p + 1) = List.range p ++ [p] from List.range_succ, List.filter_append, List.length_append]
  simp only [List.filter_cons, h, if_true, List.filter_nil, List.length_cons, List.length_nil]

/-- The i-th page in it; -1: there are not so many. -/
def nextE (l : List Bool) (i : Nat) : Int := match (elems l)[i]? with | some p => (p : Int) | none => -1

theorem first_next (l : List Bool) (q : Nat) : firstB l (q : Int) = nextE l (below l q) := by
  unfold nextE
  rcases firstB_cases l (q : Int) with ⟨h1, h2⟩ | ⟨r, h1, h2, h3, h4, h5⟩
  · rw [Int.toNat_natCast] at h2
    rw [h1, List.getElem?_eq_none (by rw [elems_none h2]; exact Nat.le_refl _)]
  · rw [Int.toNat_natCast] at h3 h5
    rw [h1, ← below_skip h3 h5, elems_at h4]
theorem first_zero (l : List Bool) : firstB l 0 = nextE l 0 := first_next l 0
theorem first_succ {l : List Bool} {i p : Nat} (h : (elems l)[i]? = some p) : firstB l ((p : Int) + 1) = nextE l (i + 1) := by
  obtain ⟨h1, h2⟩ := elems_get h
  have := first_next l (p + 1)
  rw [below_succ h1, h2] at this
  rw [← this]
  rfl

end Go.Proofs.YtbebjpdbnpdpfaaDoor
