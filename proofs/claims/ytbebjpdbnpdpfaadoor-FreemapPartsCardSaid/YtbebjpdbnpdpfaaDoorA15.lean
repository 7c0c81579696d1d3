/- The walks of the reference of layer 7: all pages in a set. -/
import Derived.Test.YtbebjpdbnpdpfaaDoorA14
set_option maxRecDepth 100000
set_option linter.unusedVariables false
set_option linter.unusedSimpArgs false
namespace Go.Proofs.YtbebjpdbnpdpfaaDoor
open Go.RowKit

def elemsTo (l : List Bool) (k : Nat) : List Nat := (List.range k).filter fun p => l.getD p false
theorem elemsTo_all (l : List Bool) : elemsTo l l.length = elems l := rfl
theorem elemsTo_len (l : List Bool) (k : Nat) : (elemsTo l k).length ≤ k := by
  unfold elemsTo; have := List.length_filter_le (fun p => l.getD p false) (List.range k); simpa using this
theorem elemsTo_in {l : List Bool} {k : Nat} (h : l.getD k false = true) : elemsTo l (k + 1) = elemsTo l k ++ [k] := by
  unfold elemsTo; rw [List.range_succ, List.filter_append]; simp only [List.filter_cons, h, if_true, List.filter_nil]
theorem elemsTo_out {l : List Bool} {k : Nat} (h : l.getD k false = false) : elemsTo l (k + 1) = elemsTo l k := by
  unfold elemsTo; rw [List.range_succ, List.filter_append]; rw [List.filter_cons, h]; simp
theorem ints_append (xs ys : List Nat) : ints (xs ++ ys) = ints xs ++ ints ys := by simp [ints]

theorem rall {w : World} {r rw : Nat} {l : List Bool} (h : RefAt w r rw l) :
    Calls Tryd.prog 60 #[.pointer (some ⟨r, 0, none⟩)] w fun e w' => ∃ v, e = .returned v ∧ NewInts w w' v (elems l) := by
  have hsm := h.2.2.1
  obtain ⟨i0, hinf, hz0, hz1, hz2⟩ := info_parts info3
  have H := Lib.hid h
  clear h
  go_enter Tryd.func60, Tryd.ntmps60
  go_wp2
  go_loopw [3, 4] (fun v p wr => ∃ (k : Nat) (a : Option Addr) (cap : Nat), k ≤ l.length ∧ p = .int .i64 k ∧ v = .slice a (elemsTo l k).length cap ∧ Hid (NewInts w wr v (elemsTo l k))) (fun _ p _ => l.length - (intOf p).toNat)
  case atStart =>
    refine ⟨0, some ⟨w.heap.size, 0, none⟩, 0, Nat.zero_le _, rfl, rfl, ?_⟩
    exact ⟨Row.empty _ _, Chg.alloc _ _ _, fun g hg => by simp [Value.ownBlock] at hg; omega⟩
  case round =>
    obtain ⟨k, a, cap, hk, rfl, rfl, HR⟩ := hrel
    obtain ⟨cp, hc, hcell⟩ := (H.out.same HR.out.2.1).cells
    have HC := Lib.hid hcell
    clear hcell
    by_cases hlt : k < l.length
    · have hx := HC.out k hlt
      have hi : (k : Int) < l.length := by omega
      cases hb : l[k] with
      | true =>
        rw [hb] at hx
        have HB := Lib.hid (show l.getD k false = true by simp [hlt, hb])
        clear hb
        go_wp2_with (at_builtin; refine wpList_append_row _ rfl (.tmp 22) (.tmp 24) 37 rfl 3 i0 (.int .i64 0) 8 Tryd.underlying37 hinf hz0 hz1 hz2 rfl (.slice a (elemsTo l k).length cap) (ints (elemsTo l k)) rfl ?h1 ⟨wr.heap.size, 0, none⟩ 1 1 [.int .i64 (k : Nat)] rfl rfl ?h3 ?h4 ?h5 ?h6 ?h7)
        case h1 => exact HR.out.1.same (Chg.alloc _ _ _)
        case h3 => exact cell_one_new _ _ _
        case h4 => simp [Value.oneCell']
        case h5 => have := elemsTo_len l k; rw [ints_len]; unfold maxLen; omega
        case h6 => have := elemsTo_len l k; rw [ints_len]; omega
        case h7 =>
          intro v' w1 hr' hc' hg' _
          have hn : NewInts w w1 v' (elemsTo l (k + 1)) := by
            rw [elemsTo_in HB.out]
            refine ⟨by rw [ints_append]; exact hr', HR.out.2.1.trans' ((Chg.alloc (fun k' => (Value.slice a (elemsTo l k).length cap).ownBlock = some k') _ _).trans hc') (fun j hj h => by have := HR.out.2.2 j h; omega), fun g hg => ?_⟩
            rcases hg' g hg with e | e
            · exact HR.out.2.2 g e
            · have := HR.out.2.1.size; have := World.size_alloc wr (Obj.cells #[Value.int .i64 (k : Nat)] 3); omega
          obtain ⟨a', c', e, -, -, -, -⟩ := hn.1.form
          rw [ints_len] at e
          have HN := Lib.hid hn
          clear hr' hc' hg' hn
          subst e
          go_wp2
          go_roundw
          case rel => exact ⟨k + 1, _, _, by omega, by go_num, rfl, HN.out⟩
          case measure => simp [intOf]; omega
      | false =>
        rw [hb] at hx
        have HB := Lib.hid (show l.getD k false = false by simp [hlt, hb])
        clear hb
        go_wp2
        go_roundw
        case rel => exact ⟨k + 1, a, cap, by omega, by go_num, by rw [elemsTo_out HB.out], by rw [elemsTo_out HB.out]; exact HR.out⟩
        case measure => simp [intOf]; omega
    · go_wp2
      go_ret
      refine ⟨_, rfl, ?_⟩
      obtain rfl : k = l.length := by omega
      exact HR.out

end Go.Proofs.YtbebjpdbnpdpfaaDoor
