/- Plain facts on a map's four sets: what is free was free, and is of no transaction; what is held was not. No walk here. -/
import Derived.Test.YtbebjpdbnpdpfaaDoorB9
set_option maxRecDepth 100000
set_option linter.unusedVariables false
set_option linter.unusedSimpArgs false
namespace Go.Proofs.YtbebjpdbnpdpfaaDoor

theorem addL_get {l : List Bool} {q : Nat} (hq : q < l.length) (j : Nat) : (addL l (q : Int)).getD j false = (decide (j = q) || l.getD j false) := by
  unfold addL
  rw [if_pos (by omega), Int.toNat_natCast, List.getD_eq_getElem?_getD, List.getElem?_set]
  by_cases e : q = j
  · subst e; simp [hq]
  · have e' : ¬ j = q := fun h => e h.symm
    simp [e, e']
theorem dropL_get {l : List Bool} {q : Nat} (hq : q < l.length) (j : Nat) : (dropL l (q : Int)).getD j false = (!decide (j = q) && l.getD j false) := by
  unfold dropL
  rw [if_pos (by omega), Int.toNat_natCast, List.getD_eq_getElem?_getD, List.getElem?_set]
  by_cases e : q = j
  · subst e; simp [hq]
  · have e' : ¬ j = q := fun h => e h.symm
    simp [e, e']
theorem addTo_get {l : List Bool} {p n : Nat} (h : p + n ≤ l.length) (j : Nat) : (addTo l p n).getD j false = (decide (p ≤ j ∧ j < p + n) || l.getD j false) := by
  induction n with
  | zero => have : ¬ (p ≤ j ∧ j < p + 0) := by omega
            rw [addTo, decide_eq_false this, Bool.false_or]
  | succ n ih =>
    rw [addTo, addL_get (by rw [addTo_len]; omega), ih (by omega)]
    by_cases h1 : j = p + n
    · have : p ≤ j ∧ j < p + (n + 1) := by omega
      simp [h1, this]
    · have : (p ≤ j ∧ j < p + n) ↔ (p ≤ j ∧ j < p + (n + 1)) := by omega
      simp only [this, h1, decide_false, Bool.false_or]
theorem dropTo_get {l : List Bool} {p n : Nat} (h : p + n ≤ l.length) (j : Nat) : (dropTo l p n).getD j false = (!decide (p ≤ j ∧ j < p + n) && l.getD j false) := by
  induction n with
  | zero => have : ¬ (p ≤ j ∧ j < p + 0) := by omega
            rw [dropTo, decide_eq_false this, Bool.not_false, Bool.true_and]
  | succ n ih =>
    rw [dropTo, dropL_get (by rw [dropTo_len]; omega), ih (by omega)]
    by_cases h1 : j = p + n
    · have : p ≤ j ∧ j < p + (n + 1) := by omega
      simp [h1, this]
    · have : (p ≤ j ∧ j < p + n) ↔ (p ≤ j ∧ j < p + (n + 1)) := by omega
      simp only [this, h1, decide_false, Bool.not_false, Bool.true_and]

/-- What holds of a map's sets throughout. -/
structure Inv (n : Nat) (F H O S : List Bool) : Prop where
  lF : F.length = n
  lH : H.length = n
  lO : O.length = n
  lS : S.length = n
  a : ∀ j, F.getD j false = (S.getD j false && !O.getD j false)
  b : ∀ j, O.getD j false = true → S.getD j false = true
  c : ∀ j, H.getD j false = true → S.getD j false = false

theorem rep_get (n j : Nat) : (List.replicate n false).getD j false = false := by
  rw [List.getD_eq_getElem?_getD, List.getElem?_replicate]; split <;> rfl
theorem Inv.fresh {n : Nat} {F : List Bool} (h : F.length = n) : Inv n F (List.replicate n false) (List.replicate n false) F :=
  ⟨h, by simp, by simp, h, fun j => by rw [rep_get]; simp, fun j e => (by rw [rep_get] at e; cases e), fun j e => (by rw [rep_get] at e; cases e)⟩

/-- Pages handed out in a row were free, all of them. -/
theorem run_free {F : List Bool} {n : Nat} (h1 : 1 ≤ n) (h : ¬ runN F (n : Int) < 0) (j : Nat) (hj : (runN F (n : Int)).toNat ≤ j ∧ j < (runN F (n : Int)).toNat + n) : F.getD j false = true := by
  rcases runN_cases F n h1 with ⟨r, hr, hrow, -⟩ | ⟨hr, -⟩
  · rw [hr, Int.toNat_natCast] at hj
    have := hrow (j - r) (by omega)
    rwa [show r + (j - r) = j by omega] at this
  · rw [hr] at h; exact absurd (by omega) h

theorem Inv.alloc {n : Nat} {F H O S : List Bool} (I : Inv n F H O S) (k : Int) : Inv n (allocF F k) H (allocO F O k) S := by
  unfold allocF allocO
  split
  · exact I
  · split
    · exact I
    · rename_i h1 h2
      obtain ⟨q, rfl⟩ : ∃ q : Nat, k = q := ⟨k.toNat, by omega⟩
      have hb := runN_bound (l := F) (n := q) (by omega) h2
      have hfree := fun j hj => run_free (F := F) (n := q) (by omega) h2 j hj
      have hbF : (runN F (q : Int)).toNat + q ≤ F.length := by omega
      have hbO : (runN F (q : Int)).toNat + q ≤ O.length := by rw [I.lO, ← I.lF]; exact hbF
      rw [Int.toNat_natCast]
      refine ⟨by rw [dropTo_len, I.lF], I.lH, by rw [addTo_len, I.lO], I.lS, fun j => ?_, fun j e => ?_, I.c⟩
      · rw [dropTo_get hbF, addTo_get hbO, I.a j]
        by_cases hr : (runN F (q : Int)).toNat ≤ j ∧ j < (runN F (q : Int)).toNat + q
        · simp [hr]
        · simp only [hr, decide_false, Bool.not_false, Bool.true_and, Bool.false_or]
      · rw [addTo_get hbO, Bool.or_eq_true] at e
        rcases e with e | e
        · have := hfree j (by simpa using e)
          rw [I.a j, Bool.and_eq_true] at this
          exact this.1
        · exact I.b j e

theorem Inv.free {n : Nat} {F H O S : List Bool} (I : Inv n F H O S) (p : Int) : Inv n (freeF F H O p) (freeH F H O p) (freeO F H O p) S := by
  cases hm : hasM F H p with
  | false =>
    have e : freeF F H O p = F ∧ freeH F H O p = H ∧ freeO F H O p = O := by unfold freeF freeH freeO; rw [hm]; exact ⟨rfl, rfl, rfl⟩
    rw [e.1, e.2.1, e.2.2]
    exact I
  | true =>
    have hr : 0 ≤ p ∧ p < F.length ∧ hasB F p = false ∧ hasB H p = false := by
      unfold hasM at hm
      simp only [Bool.and_eq_true, decide_eq_true_eq, Bool.not_eq_true'] at hm
      exact ⟨hm.1.1.1, hm.1.1.2, hm.1.2, hm.2⟩
    obtain ⟨h0, h1, hF, hH⟩ := hr
    obtain ⟨q, rfl⟩ : ∃ q : Nat, p = q := ⟨p.toNat, by omega⟩
    have hq : q < F.length := by omega
    rw [hasB_get (by omega), Int.toNat_natCast] at hF hH
    have qO : q < O.length := by rw [I.lO, ← I.lF]; exact hq
    have qH : q < H.length := by rw [I.lH, ← I.lF]; exact hq
    cases ho : hasB O (q : Int) with
    | true =>
      have e : freeF F H O q = addL F q ∧ freeH F H O q = H ∧ freeO F H O q = dropL O q := by unfold freeF freeH freeO; rw [hm, ho]; exact ⟨rfl, rfl, rfl⟩
      rw [e.1, e.2.1, e.2.2]
      rw [hasB_get (by omega), Int.toNat_natCast] at ho
      refine ⟨by rw [addL_len, I.lF], I.lH, by rw [dropL_len, I.lO], I.lS, fun j => ?_, fun j hj => ?_, I.c⟩
      · rw [addL_get hq, dropL_get qO, I.a j]
        by_cases ej : j = q
        · subst ej; rw [I.b j ho]; simp
        · simp [ej]
      · rw [dropL_get qO, Bool.and_eq_true] at hj
        exact I.b j hj.2
    | false =>
      have hO' : dropL O (q : Int) = O := by
        unfold dropL
        rw [if_pos (by omega)]
        refine set_same (.inl ?_)
        rw [hasB_get (by omega)] at ho
        rw [List.getD_eq_getElem?_getD, List.getElem?_eq_getElem (show (q : Int).toNat < O.length by omega)] at ho ⊢
        exact ho
      have e : freeF F H O q = F ∧ freeH F H O q = addL H q ∧ freeO F H O q = O := by unfold freeF freeH freeO; rw [hm, ho, hO']; exact ⟨rfl, rfl, rfl⟩
      rw [e.1, e.2.1, e.2.2]
      rw [hasB_get (by omega), Int.toNat_natCast] at ho
      refine ⟨I.lF, by rw [addL_len, I.lH], I.lO, I.lS, I.a, I.b, fun j hj => ?_⟩
      rw [addL_get qH, Bool.or_eq_true] at hj
      rcases hj with hj | hj
      · obtain rfl : j = q := by simpa using hj
        have := I.a j
        rw [hF, ho] at this
        simpa using this.symm
      · exact I.c j hj

/-- The pages that are taken where none is held. -/
theorem taken_none {n : Nat} {F : List Bool} (h : F.length = n) : takenL F (List.replicate n false) = elems (notB F) := by
  unfold takenL takenTo elems
  rw [show (notB F).length = F.length by simp [notB]]
  refine List.filter_congr fun p hp => ?_
  have hp' : p < F.length := List.mem_range.1 hp
  unfold hasM hasB
  rw [Int.toNat_natCast, rep_get]
  simp [hp', notB]
theorem elems_lt {l : List Bool} {p : Nat} (h : p ∈ elems l) : p < l.length := List.mem_range.1 (List.mem_filter.1 h).1
/-- What was taken when the last commit was done is not free now. -/
theorem Inv.kept {n : Nat} {F H O S : List Bool} (I : Inv n F H O S) {q : Nat} (h : q ∈ elems (notB S)) : F.getD q false = false := by
  have hq : q < S.length := by have := elems_lt h; simpa [notB] using this
  have ht := elems_mem.1 h
  rw [I.a q]
  simp [notB, hq] at ht
  simp [hq, ht]

theorem rising_filter {n : Nat} (ns : List Nat) : ∀ k : Nat, k ≤ n → okList n ((k : Int) - 1) (natsZ ns) = true → ((List.range' k (n - k)).filter fun p => decide (p ∈ ns)) = ns ∧ ∀ p ∈ ns, k ≤ p ∧ p < n := by
  induction ns with
  | nil => intro k hk _; simp
  | cons p t ih =>
    intro k hk h
    simp only [natsZ, List.map_cons, okList, Bool.and_eq_true, decide_eq_true_eq] at h
    obtain ⟨⟨h1, h2⟩, h3⟩ := h
    have hp : k ≤ p ∧ p < n := by omega
    obtain ⟨e, hall⟩ := ih (p + 1) (by omega) (by rw [show (((p + 1 : Nat) : Int) - 1) = (p : Int) by omega]; exact h3)
    refine ⟨?_, fun q hq => ?_⟩
    · have hcut : List.range' k (n - k) = List.range' k (p - k) ++ (p :: List.range' (p + 1) (n - (p + 1))) := by
        have e1 : List.range' k (n - k) = List.range' k (p - k) ++ List.range' (k + (p - k)) (n - p) := by
          have := List.range'_append_1 (s := k) (m := p - k) (n := n - p)
          rw [this]; congr 1; omega
        rw [e1, show k + (p - k) = p by omega, show n - p = (n - (p + 1)) + 1 by omega, List.range'_succ]
      rw [hcut, List.filter_append, List.filter_cons]
      have z1 : (List.range' k (p - k)).filter (fun q => decide (q ∈ p :: t)) = [] := by
        rw [List.filter_eq_nil_iff]
        intro q hq
        have hq' := List.mem_range'_1.1 hq
        simp only [List.mem_cons, decide_eq_true_eq, not_or]
        refine ⟨by omega, fun ht => ?_⟩
        have := (hall q ht).1
        omega
      have z2 : (List.range' (p + 1) (n - (p + 1))).filter (fun q => decide (q ∈ p :: t)) = t := by
        refine Eq.trans (List.filter_congr (q := fun q => decide (q ∈ t)) fun q hq => ?_) e
        have hq' := List.mem_range'_1.1 hq
        have : q ≠ p := by omega
        simp [this]
      rw [z1, z2]
      simp
    · rcases List.mem_cons.1 hq with rfl | hq
      · exact hp
      · have := hall q hq; omega

theorem addAll_get {ns : List Nat} : ∀ {l : List Bool}, (∀ p ∈ ns, p < l.length) → ∀ j, (addAll l ns).getD j false = (decide (j ∈ ns) || l.getD j false) := by
  induction ns with
  | nil => intro l _ j; simp [addAll]
  | cons p t ih =>
    intro l h j
    have hp := h p (List.mem_cons_self ..)
    have := ih (l := addL l (p : Int)) (fun q hq => by rw [addL_len]; exact h q (List.mem_cons_of_mem _ hq)) j
    show (addAll (addL l (p : Int)) t).getD j false = _
    rw [this, addL_get hp]
    by_cases e : j = p
    · simp [e]
    · simp [e]

/-- The pages of a list that rises are those in its set. -/
theorem elems_list {n : Nat} {ns : List Nat} (hok : okList n (-1) (natsZ ns) = true) : elems (listB n ns) = ns := by
  obtain ⟨e, hall⟩ := rising_filter ns 0 (Nat.zero_le _) (by simpa using hok)
  have hg : ∀ j, (listB n ns).getD j false = decide (j ∈ ns) := fun j => by
    unfold listB
    rw [addAll_get (fun p hp => by have := hall p hp; simp; omega), rep_get, Bool.or_false]
  unfold elems
  rw [show (listB n ns).length = n by unfold listB; rw [addAll_len, List.length_replicate], List.range_eq_range']
  rw [List.filter_congr (fun p _ => hg p)]
  simpa using e

end Go.Proofs.YtbebjpdbnpdpfaaDoor
