/- The walks of the reference of layer 7: all pages, the first one, a row of pages; two rows of numbers held against each other. -/
import Derived.Test.YtbebjpdbnpdpfaaDoorA12
set_option maxRecDepth 100000
set_option linter.unusedVariables false
set_option linter.unusedSimpArgs false
namespace Go.Proofs.YtbebjpdbnpdpfaaDoor
open Go.RowKit

theorem xadd {w : World} {b bw : Nat} {l : List Bool} (h : SetAt w b bw l) (p : Int) :
    Calls Tryd.prog 14 #[.pointer (some ⟨b, 0, none⟩), .int .i64 p] w fun e w' => e = .returned (.int .i64 (addE l p)) ∧ SetAt w' b bw (addL l p) ∧ Chg (fun k => k = bw) w w' := by
  by_cases h0 : 0 ≤ p ∧ p < l.length
  · obtain ⟨n, rfl⟩ := Int.eq_ofNat_of_zero_le h0.1
    have hn : n < l.length := by omega
    have hE : addE l (n : Int) = if l[n] then 70 else 0 := by simp [addE, hn]
    have hL : addL l (n : Int) = l.set n true := by simp [addL]
    cases hb : l[n] with
    | true =>
      refine (xadd_twice h n hn hb).mono ?_
      rintro e w' ⟨rfl, m, rfl⟩
      exact ⟨ret_int (by rw [hE, hb]; rfl), by rw [hL, set_same (.inl (by simp [hn, hb]))]; exact h.drewN m, Chg.drewN _ _ _⟩
    | false =>
      refine (xadd_in h n hn hb).mono ?_
      rintro e w' ⟨rfl, h1, h2⟩
      exact ⟨ret_int (by rw [hE, hb]; rfl), by rw [hL]; exact h1, h2⟩
  · refine (xadd_out h p (by omega)).mono ?_
    rintro e w' ⟨rfl, rfl⟩
    refine ⟨ret_int (by unfold addE; rw [if_neg h0]), ?_, Chg.refl _ _⟩
    have : addL l p = l := by
      unfold addL
      split
      · exact set_same (.inr (by omega))
      · rfl
    rw [this]
    exact h

theorem xdrop {w : World} {b bw : Nat} {l : List Bool} (h : SetAt w b bw l) (p : Int) :
    Calls Tryd.prog 15 #[.pointer (some ⟨b, 0, none⟩), .int .i64 p] w fun e w' => e = .returned (.int .i64 (dropE l p)) ∧ SetAt w' b bw (dropL l p) ∧ Chg (fun k => k = bw) w w' := by
  by_cases h0 : 0 ≤ p ∧ p < l.length
  · obtain ⟨n, rfl⟩ := Int.eq_ofNat_of_zero_le h0.1
    have hn : n < l.length := by omega
    have hE : dropE l (n : Int) = if l[n] then 0 else 4 := by simp [dropE, hn]
    have hL : dropL l (n : Int) = l.set n false := by simp [dropL]
    cases hb : l[n] with
    | false =>
      refine (xdrop_none h n hn hb).mono ?_
      rintro e w' ⟨rfl, m, rfl⟩
      exact ⟨ret_int (by rw [hE, hb]; rfl), by rw [hL, set_same (.inl (by simp [hn, hb]))]; exact h.drewN m, Chg.drewN _ _ _⟩
    | true =>
      refine (xdrop_in h n hn hb).mono ?_
      rintro e w' ⟨rfl, h1, h2⟩
      exact ⟨ret_int (by rw [hE, hb]; rfl), by rw [hL]; exact h1, h2⟩
  · refine (xdrop_out h p (by omega)).mono ?_
    rintro e w' ⟨rfl, rfl⟩
    refine ⟨ret_int (by unfold dropE; rw [if_neg h0]), ?_, Chg.refl _ _⟩
    have : dropL l p = l := by
      unfold dropL
      split
      · exact set_same (.inr (by omega))
      · rfl
    rw [this]
    exact h

/-- The cells of the reference's set. -/
theorem RefAt.cells {w : World} {r rw : Nat} {l : List Bool} (h : RefAt w r rw l) : ∃ cap, w.cell? ⟨r, 0, none⟩ = some (.slice (some ⟨rw, 0, none⟩) l.length cap) ∧ ∀ i (h : i < l.length), w.cell? ⟨rw, i, none⟩ = some (.bool l[i]) := by
  obtain ⟨hne, hpos, hsm, sp, cap, hst, hwd⟩ := h
  exact ⟨cap, hst.cell 0, fun i hi => (hwd.cell _).trans (bools_get sp hi)⟩

theorem rfirst {w : World} {r rw : Nat} {l : List Bool} (h : RefAt w r rw l) (from_ : Int) :
    Calls Tryd.prog 64 #[.pointer (some ⟨r, 0, none⟩), .int .i64 from_] w fun e w' => e = .returned (.int .i64 (firstB l from_)) ∧ w = w' := by
  have hsm := h.2.2.1
  obtain ⟨cap, hc, hcell⟩ := h.cells
  have HC := Lib.hid hcell
  clear h hcell
  go_enter Tryd.func64, Tryd.ntmps64
  go_wp2
  go_loop [5] (fun p => ∃ k : Nat, k ≤ l.length ∧ p = .int .i64 k ∧ Hid (∀ i, from_.toNat ≤ i → i < k → l.getD i false = false)) (fun p => l.length - (intOf p).toNat)
  case atStart => exact ⟨0, Nat.zero_le _, rfl, fun i h1 h2 => by omega⟩
  case round =>
    obtain ⟨k, hk, rfl, HR⟩ := hrel
    by_cases hlt : k < l.length
    · have hx := HC.out k hlt
      by_cases hf : from_ ≤ k
      · cases hb : l[k] with
        | true =>
          rw [hb] at hx
          have HB := Lib.hid hb
          clear hb
          go_wp2
          go_ret
          refine ⟨ret_int (firstB_some k (by omega) (by simp [hlt, HB.out]) (fun i h1 h2 => HR.out i h1 h2)).symm, rfl⟩
        | false =>
          rw [hb] at hx
          have HB := Lib.hid hb
          clear hb
          go_wp2
          go_round
          case rel =>
            refine ⟨k + 1, by omega, by go_num, fun i h1 h2 => ?_⟩
            by_cases e : i = k
            · subst e; simp [hlt, HB.out]
            · exact HR.out i h1 (by omega)
          case measure => simp [intOf]; omega
      · have hd : decide (from_ ≤ (k : Int)) = false := by simp; omega
        go_wp2
        go_round
        case rel => exact ⟨k + 1, by omega, by go_num, fun i h1 h2 => HR.out i h1 (by omega)⟩
        case measure => simp [intOf]; omega
    · go_wp2
      go_ret
      refine ⟨ret_int (firstB_none fun i hi => ?_).symm, rfl⟩
      by_cases e : i < k
      · exact HR.out i hi e
      · rw [List.getD_eq_getElem?_getD, List.getElem?_eq_none (by omega)]; rfl

theorem rrun {w : World} {r rw : Nat} {l : List Bool} (h : RefAt w r rw l) (n : Int) :
    Calls Tryd.prog 65 #[.pointer (some ⟨r, 0, none⟩), .int .i64 n] w fun e w' => e = .returned (.int .i64 (runN l n)) ∧ w = w' := by
  have hsm := h.2.2.1
  obtain ⟨cap, hc, hcell⟩ := h.cells
  have HC := Lib.hid hcell
  clear h hcell
  by_cases hn : n < 1
  · go_enter Tryd.func65, Tryd.ntmps65
    go_wp2
    go_ret
    exact ⟨ret_int (by simp [runN, hn]), rfl⟩
  · obtain ⟨m, rfl⟩ : ∃ m : Nat, n = m := ⟨n.toNat, by omega⟩
    have hm : 1 ≤ m := by omega
    go_enter Tryd.func65, Tryd.ntmps65
    go_wp2
    go_loop [5, 6] (fun q p => ∃ many k : Nat, k ≤ l.length ∧ many ≤ k ∧ p = .int .i64 k ∧ q = .int .i64 many ∧ Hid (Streak l m k many)) (fun _ p => l.length - (intOf p).toNat)
    case atStart => exact ⟨0, 0, Nat.zero_le _, Nat.le_refl _, rfl, rfl, Streak.zero l m hm⟩
    case round =>
      obtain ⟨many, k, hk, hmk, rfl, rfl, HR⟩ := hrel
      by_cases hlt : k < l.length
      · have hx := HC.out k hlt
        cases hb : l[k] with
        | true =>
          rw [hb] at hx
          have HB := Lib.hid (show l.getD k false = true by simp [hlt, hb])
          clear hb
          by_cases he : many + 1 = m
          · have he' : ((many : Int) + 1 == (m : Int)) = true := by simp; omega
            have hle : m ≤ k + 1 := by omega
            have HE := Lib.hid he
            clear he
            go_wp2
            go_ret
            refine ⟨ret_int ?_, rfl⟩
            rw [HR.out.hit HB.out HE.out]
            omega
          · have he' : ((many : Int) + 1 == (m : Int)) = false := by simp; omega
            have hlm := HR.out.lt
            go_wp2
            go_round
            case rel => exact ⟨many + 1, k + 1, by omega, by omega, by go_num, by go_num, HR.out.more HB.out (by omega)⟩
            case measure => simp [intOf]; omega
        | false =>
          rw [hb] at hx
          have HB := Lib.hid (show l.getD k false = false by simp [hlt, hb])
          clear hb
          have he' : ((0 : Int) == (m : Int)) = false := by simp; omega
          go_wp2
          go_round
          case rel => exact ⟨0, k + 1, by omega, by omega, by go_num, by go_num, HR.out.broken HB.out⟩
          case measure => simp [intOf]; omega
      · go_wp2
        go_ret
        obtain rfl : k = l.length := by omega
        exact ⟨ret_int HR.out.end_.symm, rfl⟩

end Go.Proofs.YtbebjpdbnpdpfaaDoor
