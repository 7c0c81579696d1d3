/- The walks of package freemap: the pages that are taken. -/
import Derived.Test.YtbebjpdbnpdpfaaDoorB4
set_option maxRecDepth 100000
set_option linter.unusedVariables false
set_option linter.unusedSimpArgs false
namespace Go.Proofs.YtbebjpdbnpdpfaaDoor
open Go.RowKit

/-- The pages below k that are taken. -/
def takenTo (F H : List Bool) (k : Nat) : List Nat := (List.range k).filter fun p => hasM F H (p : Int)
def takenL (F H : List Bool) : List Nat := takenTo F H F.length
theorem takenTo_len (F H : List Bool) (k : Nat) : (takenTo F H k).length ≤ k := by
  unfold takenTo; have := List.length_filter_le (fun p : Nat => hasM F H (p : Int)) (List.range k); simpa using this
theorem takenTo_in {F H : List Bool} {k : Nat} (h : hasM F H (k : Int) = true) : takenTo F H (k + 1) = takenTo F H k ++ [k] := by
  unfold takenTo; rw [List.range_succ, List.filter_append]; simp only [List.filter_cons, h, if_true, List.filter_nil]
theorem takenTo_out {F H : List Bool} {k : Nat} (h : hasM F H (k : Int) = false) : takenTo F H (k + 1) = takenTo F H k := by
  unfold takenTo; rw [List.range_succ, List.filter_append, List.filter_cons, h]; simp

section
variable {w : World} {m f fw h hw o ow s sw : Nat} {F H O S : List Bool}
theorem ftaken (M : MapOf w m f fw h hw o ow s sw F H O S) :
    Calls Tryd.prog 27 #[at0 m] w fun e w' => ∃ v, e = .returned v ∧ NewInts w w' v (takenL F H) := by
  obtain ⟨i0, hinf, hz0, hz1, hz2⟩ := info_parts info3
  obtain ⟨c0, c1, c2, c3⟩ := M.cells
  have hsm := M.sf.2.2.1
  have HM := Lib.hid M
  clear M
  go_enter Tryd.func27, Tryd.ntmps27
  go_wp2_with fail
  go_at_call 74; refine (xmade c0).mono ?_; rintro e w1 ⟨rfl, rfl⟩
  go_wp2_with fail
  go_at_call 61; refine (xsize HM.out.sf).mono ?_; rintro e w1 ⟨rfl, rfl⟩
  go_wp2_with fail
  go_loopw [3, 13] (fun v p wr => ∃ (k : Nat) (a : Option Addr) (cap : Nat), k ≤ F.length ∧ p = .int .i64 k ∧ v = .slice a (takenTo F H k).length cap ∧ Hid (NewInts w wr v (takenTo F H k))) (fun _ p _ => F.length - (intOf p).toNat)
  case atStart => exact ⟨0, none, 0, Nat.zero_le _, rfl, rfl, Row.nil _ _, Chg.refl _ _, fun g hg => by simp [Value.ownBlock] at hg⟩
  case round =>
    obtain ⟨k, a, cap, hk, rfl, rfl, HR⟩ := hrel
    by_cases hlt : k < F.length
    · have hi : (k : Int) < F.length := by omega
      cases hb : hasM F H (k : Int) with
      | true =>
        have HB := Lib.hid hb
        clear hb
        go_wp2_with fail
        go_at_call 42; refine (fhas (HM.out.same HR.out.2.1) (k : Int)).mono ?_; rintro e w1 ⟨rfl, q, rfl⟩; rw [HB.out]
        go_wp2_with (at_builtin; refine wpList_append_row _ rfl (.tmp 19) (.tmp 21) 37 rfl 3 i0 (.int .i64 0) 8 Tryd.underlying37 hinf hz0 hz1 hz2 rfl (.slice a (takenTo F H k).length cap) (ints (takenTo F H k)) rfl ?h1 ⟨wr.heap.size, 0, none⟩ 1 1 [.int .i64 (k : Nat)] rfl rfl ?h3 ?h4 ?h5 ?h6 ?h7)
        case h1 => exact (HR.out.1.same (Chg.drewN _ _ _)).same (Chg.alloc _ _ _)
        case h3 => exact cell_one_new (wr.drewN q) _ _
        case h4 => simp [Value.oneCell']
        case h5 => have := takenTo_len F H k; rw [ints_len]; unfold maxLen; omega
        case h6 => have := takenTo_len F H k; rw [ints_len]; omega
        case h7 =>
          intro v' w1 hr' hc' hg' _
          have hn : NewInts w w1 v' (takenTo F H (k + 1)) := by
            rw [takenTo_in HB.out]
            refine ⟨by rw [ints_append]; exact hr', HR.out.2.1.trans' (((Chg.drewN (fun k' => (Value.slice a (takenTo F H k).length cap).ownBlock = some k') _ _).trans (Chg.alloc _ _ _)).trans hc') (fun j hj h => by have := HR.out.2.2 j h; omega), fun g hg => ?_⟩
            rcases hg' g hg with e | e
            · exact HR.out.2.2 g e
            · have := HR.out.2.1.size
              have e2 : wr.heap.size ≤ g := by simpa using Nat.le_trans (Nat.le_succ _) (by simpa using e)
              omega
          obtain ⟨a', c', e, -, -, -, -⟩ := hn.1.form
          rw [ints_len] at e
          have HN := Lib.hid hn
          clear hr' hc' hg' hn
          subst e
          go_wp2_with fail
          go_roundw
          case rel => exact ⟨k + 1, _, _, by omega, by go_num, rfl, HN.out⟩
          case measure => simp [intOf]; omega
      | false =>
        have HB := Lib.hid hb
        clear hb
        go_wp2_with fail
        go_at_call 42; refine (fhas (HM.out.same HR.out.2.1) (k : Int)).mono ?_; rintro e w1 ⟨rfl, q, rfl⟩; rw [HB.out]
        go_wp2_with fail
        go_roundw
        case rel =>
          refine ⟨k + 1, a, cap, by omega, by go_num, by rw [takenTo_out HB.out], ?_⟩
          rw [takenTo_out HB.out]
          exact ⟨HR.out.1.same (Chg.drewN _ _ _), HR.out.2.1.trans (Chg.drewN _ _ _), HR.out.2.2⟩
        case measure => simp [intOf]; omega
    · go_wp2_with fail
      go_ret
      refine ⟨_, rfl, ?_⟩
      obtain rfl : k = F.length := by omega
      exact HR.out
end

end Go.Proofs.YtbebjpdbnpdpfaaDoor
