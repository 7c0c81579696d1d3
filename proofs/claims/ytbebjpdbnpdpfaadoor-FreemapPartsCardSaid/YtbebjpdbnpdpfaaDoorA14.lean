/- The walks of the law of package extent: two rows of numbers held against each other. -/
import Derived.Test.YtbebjpdbnpdpfaaDoorA13
set_option maxRecDepth 100000
set_option linter.unusedVariables false
set_option linter.unusedSimpArgs false
namespace Go.Proofs.YtbebjpdbnpdpfaaDoor
open Go.RowKit

theorem ints_get {xs : List Nat} {i : Nat} (h : i < xs.length) : (ints xs)[i]? = some (.int .i64 (xs[i] : Nat)) := by simp [ints, h]
theorem eq_of_prefix {xs ys : List Nat} {k : Nat} (hl : xs.length = ys.length) (h : xs.take k = ys.take k) (hk : xs.length ≤ k) : xs = ys := by
  rw [List.take_of_length_le hk, List.take_of_length_le (by omega)] at h; exact h

theorem xints {w : World} {a1 a2 : Option Addr} {xs ys : List Nat} {c1 c2 : Nat} (h1 : View w a1 (ints xs)) (h2 : View w a2 (ints ys)) (hx : xs.length ≤ 4096) (hy : ys.length ≤ 4096) :
    Calls Tryd.prog 53 #[.slice a1 xs.length c1, .slice a2 ys.length c2] w fun e w' => e = .returned (.bool (decide (xs = ys))) ∧ ∃ m, w' = w.drewN m := by
  have H1 := Lib.hid h1
  have H2 := Lib.hid h2
  clear h1 h2
  by_cases hl : xs.length = ys.length
  · have hl' : ((xs.length : Int) != (ys.length : Int)) = false := by simp; omega
    have HL := Lib.hid hl
    clear hl
    go_enter Tryd.func53, Tryd.ntmps53
    go_wp2
    go_loopw [5] (fun i wr => ∃ k m : Nat, k ≤ xs.length ∧ i = .int .i64 k ∧ wr = w.drewN m ∧ Hid (xs.take k = ys.take k)) (fun i _ => xs.length - (intOf i).toNat)
    case atStart => exact ⟨0, 0, Nat.zero_le _, rfl, rfl, rfl⟩
    case round =>
      obtain ⟨k, m, hk, rfl, rfl, HR⟩ := hrel
      by_cases hlt : k < xs.length
      · have hlt2 : k < ys.length := by rw [← HL.out]; exact hlt
        have hv1 := H1.out k _ (ints_get hlt)
        have hv2 := H2.out k _ (ints_get hlt2)
        obtain ⟨b1, o1, rfl, hc1⟩ := hv1
        obtain ⟨b2, o2, rfl, hc2⟩ := hv2
        have hi : (k : Int) < xs.length := by omega
        have hi2 : (k : Int) < ys.length := by omega
        have hcut : xs.take (k + 1) = ys.take (k + 1) ↔ xs[k] = ys[k] := by
          rw [List.take_succ_eq_append_getElem hlt, List.take_succ_eq_append_getElem hlt2, HR.out]
          exact ⟨fun h => by simpa using List.append_cancel_left h, fun h => by rw [h]⟩
        obtain ⟨x, hx1⟩ : ∃ x, x = xs[k] := ⟨_, rfl⟩
        obtain ⟨y, hy1⟩ : ∃ y, y = ys[k] := ⟨_, rfl⟩
        rw [← hx1] at hc1 hcut
        rw [← hy1] at hc2 hcut
        have HC := Lib.hid hcut
        clear hcut hx1 hy1
        by_cases he : x = y
        · have he' : ((x : Int) != (y : Int)) = false := by simp; omega
          have HE := Lib.hid he
          clear he
          go_wp2
          go_quiet (fail)
          go_wp2
          go_roundw
          case rel => exact ⟨k + 1, m + nq, by omega, by go_num, by first | exact World.drewN_drewN .. | rfl, HC.out.2 HE.out⟩
          case measure => simp [intOf]; omega
        · have he' : ((x : Int) != (y : Int)) = true := by simp; omega
          have hne : xs ≠ ys := fun e => he (HC.out.1 (by rw [e]))
          have HN := Lib.hid hne
          clear he hne
          go_wp2
          go_quiet (fail)
          go_wp2
          go_ret
          exact ⟨ret_bool (by simp [HN.out]), m + nq, by first | exact World.drewN_drewN .. | rfl⟩
      · go_wp2
        go_ret
        exact ⟨ret_bool (by simp [eq_of_prefix HL.out HR.out (by omega)]), m, rfl⟩
  · have hl' : ((xs.length : Int) != (ys.length : Int)) = true := by simp; omega
    have hne : xs ≠ ys := fun e => hl (by rw [e])
    have HN := Lib.hid hne
    clear hl hne
    go_enter Tryd.func53, Tryd.ntmps53
    go_wp2
    go_ret
    exact ⟨ret_bool (by simp [HN.out]), 0, rfl⟩

end Go.Proofs.YtbebjpdbnpdpfaaDoor
