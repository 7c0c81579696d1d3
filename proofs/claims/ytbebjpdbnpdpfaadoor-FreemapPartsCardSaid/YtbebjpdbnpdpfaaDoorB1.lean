/- The walks of package freemap: what a page is; how many are free, how many are held. -/
import Derived.Test.YtbebjpdbnpdpfaaDoorB0
set_option maxRecDepth 100000
set_option linter.unusedVariables false
set_option linter.unusedSimpArgs false
namespace Go.Proofs.YtbebjpdbnpdpfaaDoor
open Go.RowKit

/-- Is a page taken? -/
def hasM (F H : List Bool) (p : Int) : Bool := decide (0 ≤ p ∧ p < F.length) && !hasB F p && !hasB H p

section
variable {w : World} {m f fw h hw o ow s sw : Nat} {F H O S : List Bool}
theorem MapOf.cells (M : MapOf w m f fw h hw o ow s sw F H O S) : w.cell? ⟨m, 0, none⟩ = some (at0 f) ∧ w.cell? ⟨m, 1, none⟩ = some (at0 h) ∧ w.cell? ⟨m, 2, none⟩ = some (at0 o) ∧ w.cell? ⟨m, 3, none⟩ = some (at0 s) := ⟨M.blk.cell 0, M.blk.cell 1, M.blk.cell 2, M.blk.cell 3⟩

theorem fhas (M : MapOf w m f fw h hw o ow s sw F H O S) (p : Int) : Calls Tryd.prog 42 #[at0 m, .int .i64 p] w fun e w' => e = .returned (.bool (hasM F H p)) ∧ ∃ k, w' = w.drewN k := by
  obtain ⟨c0, c1, c2, c3⟩ := M.cells
  have HM := Lib.hid M
  clear M
  by_cases h0 : 0 ≤ p
  · by_cases h1 : p < F.length
    · cases hF : hasB F p with
      | true =>
        have HF := Lib.hid hF
        clear hF
        go_enter Tryd.func42, Tryd.ntmps42
        go_wp2_with fail
        go_at_call 74; refine (xmade c0).mono ?_; rintro e w1 ⟨rfl, rfl⟩
        go_wp2_with fail
        go_at_call 61; refine (xsize HM.out.sf).mono ?_; rintro e w1 ⟨rfl, rfl⟩
        go_wp2_with fail
        go_at_call 57; refine (xhas HM.out.sf p).mono ?_; rintro e w1 ⟨rfl, k, rfl⟩; rw [HF.out]
        go_wp2_with fail
        go_ret
        exact ⟨ret_bool (by simp [hasM, HF.out]), k, rfl⟩
      | false =>
        have HF := Lib.hid hF
        clear hF
        go_enter Tryd.func42, Tryd.ntmps42
        go_wp2_with fail
        go_at_call 74; refine (xmade c0).mono ?_; rintro e w1 ⟨rfl, rfl⟩
        go_wp2_with fail
        go_at_call 61; refine (xsize HM.out.sf).mono ?_; rintro e w1 ⟨rfl, rfl⟩
        go_wp2_with fail
        go_at_call 57; refine (xhas HM.out.sf p).mono ?_; rintro e w1 ⟨rfl, k, rfl⟩; rw [HF.out]
        go_wp2_with fail
        go_at_call 57; refine (xhas (HM.out.sh.drewN k) p).mono ?_; rintro e w1 ⟨rfl, k2, rfl⟩
        go_wp2_with fail
        go_ret
        exact ⟨ret_bool (by simp [hasM, HF.out, h0, h1]), k + k2, by first | exact World.drewN_drewN .. | rfl⟩
    · have h1' : decide (p < (F.length : Int)) = false := by simp; omega
      go_enter Tryd.func42, Tryd.ntmps42
      go_wp2_with fail
      go_at_call 74; refine (xmade c0).mono ?_; rintro e w1 ⟨rfl, rfl⟩
      go_wp2_with fail
      go_at_call 61; refine (xsize HM.out.sf).mono ?_; rintro e w1 ⟨rfl, rfl⟩
      go_wp2_with fail
      go_ret
      exact ⟨ret_bool (by simp [hasM]; omega), 0, rfl⟩
  · have h0' : decide (0 ≤ p) = false := by simp; omega
    go_enter Tryd.func42, Tryd.ntmps42
    go_wp2_with fail
    go_at_call 74; refine (xmade c0).mono ?_; rintro e w1 ⟨rfl, rfl⟩
    go_wp2_with fail
    go_ret
    exact ⟨ret_bool (by simp [hasM]; omega), 0, rfl⟩

theorem fmine (M : MapOf w m f fw h hw o ow s sw F H O S) (p : Int) : Calls Tryd.prog 43 #[at0 m, .int .i64 p] w fun e w' => e = .returned (.bool (hasB O p)) ∧ ∃ k, w' = w.drewN k := by
  obtain ⟨c0, c1, c2, c3⟩ := M.cells
  have HM := Lib.hid M
  clear M
  go_enter Tryd.func43, Tryd.ntmps43
  go_wp2_with fail
  go_at_call 74; refine (xmade c0).mono ?_; rintro e w1 ⟨rfl, rfl⟩
  go_wp2_with fail
  go_at_call 57; refine (xhas HM.out.so p).mono ?_; rintro e w1 ⟨rfl, k, rfl⟩
  go_wp2_with fail
  go_ret
  exact ⟨rfl, k, rfl⟩

theorem favail (M : MapOf w m f fw h hw o ow s sw F H O S) : Calls Tryd.prog 39 #[at0 m] w fun e w' => e = .returned (.int .i64 (F.count true : Nat)) ∧ w = w' := by
  obtain ⟨c0, c1, c2, c3⟩ := M.cells
  have HL := Lib.hid (xlen M.sf)
  clear M
  go_enter Tryd.func39, Tryd.ntmps39
  go_wp2_with fail
  go_at_call 74; refine (xmade c0).mono ?_; rintro e w1 ⟨rfl, rfl⟩
  go_wp2_with fail
  go_at_call 51; refine HL.out.mono ?_; rintro e w1 ⟨rfl, rfl⟩
  go_wp2_with fail
  go_ret
  exact ⟨rfl, rfl⟩

theorem fheld (M : MapOf w m f fw h hw o ow s sw F H O S) : Calls Tryd.prog 38 #[at0 m] w fun e w' => e = .returned (.int .i64 (H.count true : Nat)) ∧ w = w' := by
  obtain ⟨c0, c1, c2, c3⟩ := M.cells
  have HL := Lib.hid (xlen M.sh)
  clear M
  go_enter Tryd.func38, Tryd.ntmps38
  go_wp2_with fail
  go_at_call 74; refine (xmade c0).mono ?_; rintro e w1 ⟨rfl, rfl⟩
  go_wp2_with fail
  go_at_call 51; refine HL.out.mono ?_; rintro e w1 ⟨rfl, rfl⟩
  go_wp2_with fail
  go_ret
  exact ⟨rfl, rfl⟩
end

end Go.Proofs.YtbebjpdbnpdpfaaDoor
