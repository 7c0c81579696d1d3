/- The walks of the reference of layer 7: the runs in a set, told. -/
import Derived.Test.YtbebjpdbnpdpfaaDoorA16
set_option maxRecDepth 100000
set_option linter.unusedVariables false
set_option linter.unusedSimpArgs false
namespace Go.Proofs.YtbebjpdbnpdpfaaDoor
open Go.RowKit

theorem runsTo_cut {l : List Bool} {k : Nat} (h : l.getD k false = true) (hc : k = 0 ∨ l.getD (k - 1) false = false) : runsTo l (k + 1) = runsTo l k ++ [(k, 1)] := by rw [runsTo, if_pos h, if_pos hc]
theorem runsTo_bump {l : List Bool} {k : Nat} (h : l.getD k false = true) (hc : ¬ (k = 0 ∨ l.getD (k - 1) false = false)) : runsTo l (k + 1) = bump (runsTo l k) := by rw [runsTo, if_pos h, if_neg hc]
theorem runsTo_out {l : List Bool} {k : Nat} (h : l.getD k false = false) : runsTo l (k + 1) = runsTo l k := by rw [runsTo, if_neg (by rw [h]; simp)]

theorem RunRow.calm {w wr w' : World} {v : Value} {rs : List (Nat × Nat)} {gs : List Nat} (h : RunRow w wr v rs gs) (hc : Same wr w') : RunRow w w' v rs gs :=
  ⟨h.len, h.row.same hc, h.same.trans hc, h.own, h.new, h.nodup, fun i g r h1 h2 => (h.at_ i g r h1 h2).same hc⟩

set_option maxHeartbeats 4000000 in
theorem rruns {w : World} {r rw : Nat} {l : List Bool} (h : RefAt w r rw l) :
    Calls Tryd.prog 68 #[.pointer (some ⟨r, 0, none⟩)] w fun e w' => ∃ v gs, e = .returned v ∧ RunRow w w' v (runsB l) gs := by
  have hsm := h.2.2.1
  obtain ⟨i0, hinf, hz0, hz1, hz2⟩ := info_parts info37
  have H := Lib.hid h
  clear h
  go_enter Tryd.func68, Tryd.ntmps68
  go_wp2
  go_loopw [3, 4] (fun v p wr => ∃ (k n : Nat) (a : Option Addr) (cap : Nat) (gs : List Nat), k ≤ l.length ∧ n ≤ k ∧ p = .int .i64 k ∧ v = .slice a n cap ∧ Hid (n = (runsTo l k).length) ∧ Hid (RunRow w wr v (runsTo l k) gs)) (fun _ p _ => l.length - (intOf p).toNat)
  case atStart =>
    refine ⟨0, 0, some ⟨w.heap.size, 0, none⟩, 0, [], Nat.zero_le _, Nat.zero_le _, rfl, rfl, rfl, ?_⟩
    exact ⟨rfl, Row.empty _ _, Chg.alloc _ _ _, fun g hg => by simp [Value.ownBlock] at hg; omega, by simp, by simp, by simp⟩
  case round =>
    obtain ⟨k, n, a, cap, gs, hk, hnk, rfl, rfl, HN, HR⟩ := hrel
    obtain ⟨cp, hc, hcell⟩ := (H.out.same HR.out.same).cells
    have HC := Lib.hid hcell
    clear hcell
    by_cases hlt : k < l.length
    · have hx := HC.out k hlt
      have hi : (k : Int) < l.length := by omega
      cases hb : l[k] with
      | true =>
        rw [hb] at hx
        have HB := Lib.hid (show l.getD k false = true by simp [hlt, hb])
        clear hb
        by_cases hcut : k = 0 ∨ l.getD (k - 1) false = false
        · -- a new run begins
          have HCUT := Lib.hid hcut
          by_cases hk0 : k = 0
          · have hk0' : ((k : Int) == 0) = true := by simp; omega
            clear hcut hk0
            go_wp2_with (at_builtin; refine wpList_append_row _ rfl (.tmp 36) (.tmp 39) 94 rfl 37 i0 (.slice none 0 0) 24 Tryd.underlying94 hinf hz0 hz1 hz2 rfl (.slice a n cap) (pairs gs) rfl ?h1 ⟨wr.heap.size + 1, 0, none⟩ 1 1 [pairAt wr.heap.size] rfl rfl ?h3 ?h4 ?h5 ?h6 ?h7)
            case h1 => exact HR.out.row.same ((Chg.alloc _ _ _).trans (Chg.alloc _ _ _))
            case h3 => have := cell_one_new (wr.alloc (.cells #[.int .i64 (k : Nat), .int .i64 0] 3)) (pairAt wr.heap.size) 37; simp only [World.size_alloc] at this; exact this
            case h4 => simp [pairAt, Value.oneCell']
            case h5 => rw [pairs_len, HR.out.len, ← HN.out]; unfold maxLen; omega
            case h6 => rw [pairs_len, HR.out.len, ← HN.out]; omega
            case h7 =>
              intro v' w1 hr' hc' hg' _
              have hM := HR.out.more (k := k) hr' hc' (fun g hg => by rcases hg' g hg with e | e; exact .inl e; right; omega)
              obtain ⟨g0, cap', g, hv', hcl, hcn, hfz, hB⟩ := hM.last
              obtain ⟨c, hc0⟩ : ∃ c : Nat, c = 0 := ⟨0, rfl⟩
              obtain ⟨m, hm⟩ : ∃ m, m = n + 1 := ⟨_, rfl⟩
              rw [← HN.out] at hv' hcl
              rw [← hm] at hv'
              rw [← hc0] at hcn hB
              have hfin : Hid (m = (runsTo l (k + 1)).length) ∧ Hid (RunRow w (w1.setCell ⟨g, 1, none⟩ (.int .i64 ((c : Int) + 1))) v' (runsTo l (k + 1)) (gs ++ [wr.heap.size])) := by
                rw [runsTo_cut HB.out HCUT.out]
                refine ⟨by rw [List.length_append, ← HN.out]; exact hm, ?_⟩
                subst hc0
                exact hB
              have hcs : c ≤ 4096 := by omega
              clear hr' hc' hg' hM hB hc0
              subst hv'
              have hmw : IntKind.i64.wrap ((m : Int) - 1) = (n : Int) := by rw [IntWalk.i64_in _ (by omega)]; omega
              have hm1 : (n : Int) < (m : Int) := by omega
              have hcw : IntKind.i64.wrap ((c : Int) + 1) = (c : Int) + 1 := by rw [IntWalk.i64_in _ (by omega)]
              have hn0 : (0 : Int) ≤ (n : Int) := by omega
              have HM := Lib.hid hm
              have HF := Lib.hid hfin
              clear hfin hm
              go_wp2
              refine region_tail 16 (by kernel_rfl) (by kernel_rfl) ?_
              simp only [List.take_succ_cons, List.take_zero, List.drop_succ_cons, List.drop_zero, World.drew_drewN]
              repeat still_step
              refine wpStill_nil ?_
              go_wp2
              go_roundw
              case rel => exact ⟨k + 1, m, _, _, _, by omega, by have := HM.out; omega, by go_num, rfl, HF.out.1, HF.out.2.out.calm (Chg.drew _ _)⟩
              case measure => simp [intOf]; omega
          · have hk0' : ((k : Int) == 0) = false := by simp; omega
            have hx1 : wr.cell? ⟨rw, k - 1, none⟩ = some (.bool false) := by
              have := HC.out (k - 1) (by omega)
              rcases hcut with e | e
              · omega
              · rw [List.getD_eq_getElem?_getD, List.getElem?_eq_getElem (by omega)] at e
                rw [this]
                simp at e
                rw [e]
            have hkt : ((k : Int) - 1).toNat = k - 1 := by omega
            have hkm : (k : Int) - 1 < l.length := by omega
            have hk1 : (1 : Int) ≤ k := by omega
            have hk2 : (0 : Int) ≤ (k : Int) - 1 := by omega
            clear hcut hk0
            go_wp2_with (at_builtin; refine wpList_append_row _ rfl (.tmp 36) (.tmp 39) 94 rfl 37 i0 (.slice none 0 0) 24 Tryd.underlying94 hinf hz0 hz1 hz2 rfl (.slice a n cap) (pairs gs) rfl ?h1 ⟨wr.heap.size + 1, 0, none⟩ 1 1 [pairAt wr.heap.size] rfl rfl ?h3 ?h4 ?h5 ?h6 ?h7)
            case h1 => exact HR.out.row.same ((Chg.alloc _ _ _).trans (Chg.alloc _ _ _))
            case h3 => have := cell_one_new (wr.alloc (.cells #[.int .i64 (k : Nat), .int .i64 0] 3)) (pairAt wr.heap.size) 37; simp only [World.size_alloc] at this; exact this
            case h4 => simp [pairAt, Value.oneCell']
            case h5 => rw [pairs_len, HR.out.len, ← HN.out]; unfold maxLen; omega
            case h6 => rw [pairs_len, HR.out.len, ← HN.out]; omega
            case h7 =>
              intro v' w1 hr' hc' hg' _
              have hM := HR.out.more (k := k) hr' hc' (fun g hg => by rcases hg' g hg with e | e; exact .inl e; right; omega)
              obtain ⟨g0, cap', g, hv', hcl, hcn, hfz, hB⟩ := hM.last
              obtain ⟨c, hc0⟩ : ∃ c : Nat, c = 0 := ⟨0, rfl⟩
              obtain ⟨m, hm⟩ : ∃ m, m = n + 1 := ⟨_, rfl⟩
              rw [← HN.out] at hv' hcl
              rw [← hm] at hv'
              rw [← hc0] at hcn hB
              have hfin : Hid (m = (runsTo l (k + 1)).length) ∧ Hid (RunRow w (w1.setCell ⟨g, 1, none⟩ (.int .i64 ((c : Int) + 1))) v' (runsTo l (k + 1)) (gs ++ [wr.heap.size])) := by
                rw [runsTo_cut HB.out HCUT.out]
                refine ⟨by rw [List.length_append, ← HN.out]; exact hm, ?_⟩
                subst hc0
                exact hB
              have hcs : c ≤ 4096 := by omega
              clear hr' hc' hg' hM hB hc0
              subst hv'
              have hmw : IntKind.i64.wrap ((m : Int) - 1) = (n : Int) := by rw [IntWalk.i64_in _ (by omega)]; omega
              have hm1 : (n : Int) < (m : Int) := by omega
              have hcw : IntKind.i64.wrap ((c : Int) + 1) = (c : Int) + 1 := by rw [IntWalk.i64_in _ (by omega)]
              have hn0 : (0 : Int) ≤ (n : Int) := by omega
              have HM := Lib.hid hm
              have HF := Lib.hid hfin
              clear hfin hm
              go_wp2
              refine region_tail 16 (by kernel_rfl) (by kernel_rfl) ?_
              simp only [List.take_succ_cons, List.take_zero, List.drop_succ_cons, List.drop_zero, World.drew_drewN]
              repeat still_step
              refine wpStill_nil ?_
              go_wp2
              go_roundw
              case rel => exact ⟨k + 1, m, _, _, _, by omega, by have := HM.out; omega, by go_num, rfl, HF.out.1, HF.out.2.out.calm (Chg.drew _ _)⟩
              case measure => simp [intOf]; omega
        · -- the last run goes on
          have hk0' : ((k : Int) == 0) = false := by simp; omega
          have hx1 : wr.cell? ⟨rw, k - 1, none⟩ = some (.bool true) := by
            have := HC.out (k - 1) (by omega)
            rw [not_or] at hcut
            have e := hcut.2
            rw [List.getD_eq_getElem?_getD, List.getElem?_eq_getElem (by omega)] at e
            rw [this]
            simp at e
            rw [e]
          have hkt : ((k : Int) - 1).toNat = k - 1 := by omega
          have hkm : (k : Int) - 1 < l.length := by omega
          have hk1 : (1 : Int) ≤ k := by omega
          have hk2 : (0 : Int) ≤ (k : Int) - 1 := by omega
          obtain ⟨rs, p, c, hrs, hck⟩ := runsTo_open hk hcut
          have hR := HR.out
          have hnl := HN.out
          rw [hrs] at hR hnl
          obtain ⟨g0, cap', g, hv', hcl, hcn, hfz, hB⟩ := hR.last
          have hfin : Hid (n = (runsTo l (k + 1)).length) ∧ Hid (RunRow w (wr.setCell ⟨g, 1, none⟩ (.int .i64 ((c : Int) + 1))) (.slice a n cap) (runsTo l (k + 1)) gs) := by
            rw [runsTo_bump HB.out hcut, hrs, bump_snoc]
            exact ⟨Lib.hid (by rw [hnl]; simp), hB⟩
          obtain ⟨n', hn'⟩ : ∃ n', n' = rs.length := ⟨_, rfl⟩
          rw [← hn'] at hcl hv'
          have hm : n = n' + 1 := by rw [hnl, hn']; simp
          have hcs : c ≤ 4096 := by omega
          have ha : a = some ⟨g0, 0, none⟩ := by injection hv'
          subst ha
          clear hR hB hv' hnl hrs hcut hn'
          have hmw : IntKind.i64.wrap ((n : Int) - 1) = (n' : Int) := by rw [IntWalk.i64_in _ (by omega)]; omega
          have hm1 : (n' : Int) < (n : Int) := by omega
          have hcw : IntKind.i64.wrap ((c : Int) + 1) = (c : Int) + 1 := by rw [IntWalk.i64_in _ (by omega)]
          have hn0 : (0 : Int) ≤ (n' : Int) := by omega
          have HM := Lib.hid hm
          have HF := Lib.hid hfin
          clear hfin hm
          go_wp2
          refine region_tail 16 (by kernel_rfl) (by kernel_rfl) ?_
          simp only [List.take_succ_cons, List.take_zero, List.drop_succ_cons, List.drop_zero, World.drew_drewN]
          repeat still_step
          refine wpStill_nil ?_
          go_wp2
          go_roundw
          case rel => exact ⟨k + 1, n, _, _, _, by omega, by have := HM.out; omega, by go_num, rfl, HF.out.1, HF.out.2.out.calm (Chg.drew _ _)⟩
          case measure => simp [intOf]; omega
      | false =>
        rw [hb] at hx
        have HB := Lib.hid (show l.getD k false = false by simp [hlt, hb])
        clear hb
        go_wp2
        go_roundw
        case rel => exact ⟨k + 1, n, a, cap, gs, by omega, by omega, by go_num, rfl, by rw [runsTo_out HB.out]; exact HN, by rw [runsTo_out HB.out]; exact HR⟩
        case measure => simp [intOf]; omega
    · go_wp2
      go_ret
      refine ⟨_, gs, rfl, ?_⟩
      obtain rfl : k = l.length := by omega
      rw [← runsTo_all]
      exact HR.out

end Go.Proofs.YtbebjpdbnpdpfaaDoor
