/- The walks of the law of package extent: is a run found? -/
import Derived.Test.YtbebjpdbnpdpfaaDoorA18
set_option maxRecDepth 100000
set_option linter.unusedVariables false
set_option linter.unusedSimpArgs false
namespace Go.Proofs.YtbebjpdbnpdpfaaDoor
open Go.RowKit

def live8 : List Bool := addAll (List.replicate 8 false) [5, 1, 2]
theorem live8_len : (live8.count true : Nat) = 3 := by decide
theorem live8_run2 : runN live8 2 = 1 := by decide
theorem live8_run3 : runN live8 3 = -1 := by decide
theorem live8_firsts : (firsts (runsB live8)).take 9 = [1, 5] := by decide
theorem live8_seconds : (seconds (runsB live8)).take 9 = [2, 1] := by decide

theorem View.blk {w : World} {b : Nat} {t : TypeId} {c : List Value} (h : Blk w b t c) : View w (some ⟨b, 0, none⟩) c := by
  intro i x hx
  exact ⟨b, 0, rfl, by rw [h.cell]; simpa using hx⟩

theorem NewInts.form {w w' : World} {v : Value} {xs : List Nat} (h : NewInts w w' v xs) : ∃ a c, v = .slice a xs.length c ∧ View w' a (ints xs) := by
  obtain ⟨a, c, e, _, _, hv, _⟩ := h.1.form
  rw [ints_len] at e
  exact ⟨a, c, e, hv⟩

set_option maxHeartbeats 4000000 in
theorem xlive {w : World} (hT : Tab w) : Calls Tryd.prog 12 #[] w fun e w' => e = .returned (.bool true) ∧ Same w w' := by
  obtain ⟨l8, H8, f1, f2, f3, f4, f5⟩ : ∃ l8, Hid (l8 = live8) ∧ Hid (((l8.count true : Nat) : Int) = 3) ∧ Hid (runN l8 2 = 1) ∧ Hid (runN l8 3 = -1) ∧ Hid ((firsts (runsB l8)).take 9 = [1, 5]) ∧ Hid ((seconds (runsB l8)).take 9 = [2, 1]) :=
    ⟨live8, rfl, by rw [live8_len]; exact rfl, live8_run2, live8_run3, live8_firsts, live8_seconds⟩
  have HT := Lib.hid hT
  clear hT
  go_enter Tryd.func12, Tryd.ntmps12
  go_wp2_with (go_at_call 48; refine (xof (xs := [5, 1, 2]) 8 (by omega) (by omega) (View.blk (Blk.newA w 3 #[.int .i64 5, .int .i64 1, .int .i64 2])) (by simp)).mono ?_; rintro e w1 ⟨b, bw, rfl, hN⟩; have HN := Lib.hid (show NewSet _ w1 b bw l8 by rw [H8.out]; exact hN); clear hN)
  have HS := Lib.hid HN.out.1
  have HT1 := Lib.hid (HT.out.same ((Chg.alloc _ _ _).trans HN.out.2.1))
  go_wp2_with (first
    | (go_at_call 50; refine (xruns _ _).mono ?_; rintro e w2 ⟨rfl, rfl⟩)
    | (go_at_call 49; refine (runs_of HS.out HT1.out 9).mono ?_; rintro e w3 ⟨v1, v2, rfl, h1, h2⟩; rw [show Int.toNat 9 = 9 from rfl, f4.out] at h1; rw [show Int.toNat 9 = 9 from rfl, f5.out] at h2; obtain ⟨a1, c1, rfl, hv1⟩ := h1.form; obtain ⟨a2, c2, rfl, hv2⟩ := h2.form; have H3 := Lib.hid h1.2.1; have HV1 := Lib.hid hv1; have HV2 := Lib.hid hv2; have HS3 := Lib.hid (HS.out.same H3.out); have HT3 := Lib.hid (HT1.out.same H3.out); clear h1 h2 hv1 hv2))
  have hl := xlen HS3.out
  rw [f1.out] at hl
  have HL := Lib.hid hl
  clear hl
  go_at_call 51; refine HL.out.mono ?_; rintro e w4 ⟨rfl, rfl⟩
  go_wp2_with fail
  go_at_call 52; refine (xrun HS3.out HT3.out 2).mono ?_; rintro e w4 ⟨rfl, h4⟩; rw [f2.out]; have H4 := Lib.hid h4; clear h4
  go_wp2_with fail
  go_at_call 52; refine (xrun (HS3.out.same H4.out) (HT3.out.same H4.out) 3).mono ?_; rintro e w5 ⟨rfl, h5⟩; rw [f3.out]; have H5 := Lib.hid h5; clear h5
  go_wp2_with fail
  go_at_call 53; refine (xints (xs := [1, 5]) (ys := [1, 5]) (HV1.out.same (H4.out.trans (H5.out.trans (Chg.alloc _ _ _)))) (View.blk (Blk.newA w5 3 #[.int .i64 1, .int .i64 5])) (by simp) (by simp)).mono ?_; rintro e w6 ⟨rfl, m, rfl⟩
  go_wp2_with fail
  go_at_call 53; refine (xints (xs := [2, 1]) (ys := [2, 1]) ?hv1 ?hv2 (by simp) (by simp)).mono ?_
  case hv1 => exact HV2.out.same (H4.out.trans (H5.out.trans ((Chg.alloc _ _ _).trans ((Chg.drewN _ _ _).trans (Chg.alloc _ _ _)))))
  case hv2 =>
    have := Blk.newA ((w5.alloc (.cells #[.int .i64 1, .int .i64 5] 3)).drewN m) 3 #[.int .i64 2, .int .i64 1]
    simp only [World.heap_drewN, World.size_alloc] at this
    exact View.blk this
  rintro e w7 ⟨rfl, m2, rfl⟩
  go_wp2_with fail
  go_ret
  refine ⟨rfl, ?_⟩
  exact ((Chg.alloc _ _ _).trans HN.out.2.1).trans (H3.out.trans (H4.out.trans (H5.out.trans (((Chg.alloc _ _ _).trans (Chg.drewN _ _ _)).trans ((Chg.alloc _ _ _).trans (Chg.drewN _ _ _))))))

end Go.Proofs.YtbebjpdbnpdpfaaDoor
