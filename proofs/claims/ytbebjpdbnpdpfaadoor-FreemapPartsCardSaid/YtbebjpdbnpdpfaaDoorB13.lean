/- Plain facts on a map's four sets: how many pages there are of each kind; what a commit tells as taken. No walk here. -/
import Derived.Test.YtbebjpdbnpdpfaaDoorB11
set_option maxRecDepth 100000
set_option linter.unusedVariables false
set_option linter.unusedSimpArgs false
namespace Go.Proofs.YtbebjpdbnpdpfaaDoor

theorem hasM_nat {F H : List Bool} {p : Nat} (hp : p < F.length) : hasM F H (p : Int) = (!F.getD p false && !H.getD p false) := by
  unfold hasM hasB
  rw [Int.toNat_natCast]
  simp [hp]
theorem Inv.apart {n : Nat} {F H O S : List Bool} (I : Inv n F H O S) (j : Nat) : ¬ (F.getD j false = true ∧ H.getD j false = true) := by
  rintro ⟨h1, h2⟩
  rw [I.a j, I.c j h2] at h1
  simp at h1
theorem Inv.counts {n : Nat} {F H O S : List Bool} (I : Inv n F H O S) : ∀ k, k ≤ n → (takenTo F H k).length + (H.take k).count true + (F.take k).count true = k := by
  intro k
  induction k with
  | zero => intro _; simp [takenTo]
  | succ k ih =>
    intro hk
    have ih := ih (by omega)
    have hF : k < F.length := by rw [I.lF]; omega
    have hH : k < H.length := by rw [I.lH]; omega
    have hap := I.apart k
    have hm := hasM_nat (H := H) hF
    rw [List.getD_eq_getElem?_getD, List.getD_eq_getElem?_getD, List.getElem?_eq_getElem hF, List.getElem?_eq_getElem hH] at hap hm
    simp only [Option.getD_some] at hap hm
    rw [List.take_succ_eq_append_getElem hH, List.take_succ_eq_append_getElem hF, List.count_append, List.count_append]
    cases hf : F[k] with
    | true =>
      cases hh : H[k] with
      | true => exact absurd ⟨hf, hh⟩ hap
      | false =>
        rw [hf, hh] at hm
        rw [takenTo_out (by rw [hm]; rfl)]
        simp
        omega
    | false =>
      cases hh : H[k] with
      | true =>
        rw [hf, hh] at hm
        rw [takenTo_out (by rw [hm]; rfl)]
        simp
        omega
      | false =>
        rw [hf, hh] at hm
        rw [takenTo_in (by rw [hm]; rfl), List.length_append]
        simp
        omega
/-- Taken, held, free: that is all. -/
theorem Inv.all {n : Nat} {F H O S : List Bool} (I : Inv n F H O S) : (takenL F H).length + H.count true + F.count true = n := by
  have := I.counts n (Nat.le_refl _)
  rw [List.take_of_length_le (by rw [I.lH]; exact Nat.le_refl _), List.take_of_length_le (by rw [I.lF]; exact Nat.le_refl _)] at this
  unfold takenL
  rw [I.lF]
  exact this
/-- Behind a commit is taken what was told as taken. -/
theorem Inv.commit {n : Nat} {F H O S : List Bool} (I : Inv n F H O S) : elems (notB (addAll F (elems H))) = takenL F H := by
  have hl : (addAll F (elems H)).length = n := by rw [addAll_len, I.lF]
  rw [← taken_none hl]
  unfold takenL takenTo
  rw [hl, I.lF]
  refine List.filter_congr fun p hp => ?_
  have hp' : p < n := List.mem_range.1 hp
  rw [hasM_nat (by rw [hl]; exact hp'), hasM_nat (by rw [I.lF]; exact hp'), rep_get]
  rw [addAll_get (fun q hq => by have := elems_lt hq; rw [I.lH] at this; rw [I.lF]; exact this)]
  have : decide (p ∈ elems H) = H.getD p false := by
    cases hh : H.getD p false with
    | true => exact decide_eq_true (elems_mem.2 hh)
    | false => exact decide_eq_false (fun h => by rw [elems_mem.1 h] at hh; cases hh)
  rw [this]
  cases F.getD p false <;> cases H.getD p false <;> rfl

end Go.Proofs.YtbebjpdbnpdpfaaDoor
