/- The walks of the law of package freemap: the chapter's example. -/
import Derived.Test.YtbebjpdbnpdpfaaDoorB8
set_option maxRecDepth 100000
set_option linter.unusedVariables false
set_option linter.unusedSimpArgs false
namespace Go.Proofs.YtbebjpdbnpdpfaaDoor
open Go.RowKit

def e8 : List Bool := List.replicate 8 false
def e0 : List Bool := notB (listB 8 [0, 1, 4])
def e1F : List Bool := allocF e0 1
def e1O : List Bool := allocO e0 e8 1
def e2F : List Bool := allocF e1F 2
def e2O : List Bool := allocO e1F e1O 2
def e3F : List Bool := freeF e2F e8 e2O 4
def e3H : List Bool := freeH e2F e8 e2O 4
def e3O : List Bool := freeO e2F e8 e2O 4
def e4F : List Bool := freeF e3F e3H e3O 2
def e4H : List Bool := freeH e3F e3H e3O 2
def e4O : List Bool := freeO e3F e3H e3O 2
def e5F : List Bool := allocF e4F 1
def e5O : List Bool := allocO e4F e4O 1
def e6F : List Bool := addAll e5F (elems e4H)

theorem example8 : allocP e0 1 = 2 ∧ allocE e0 1 = 0 ∧ allocP e1F 2 = 5 ∧ allocE e1F 2 = 0 ∧ freeE e2F e8 4 = 0 ∧ freeE e3F e3H 2 = 0 ∧ allocP e4F 1 = 2 ∧ allocE e4F 1 = 0 ∧ takenL e6F e8 = [0, 1, 2, 5, 6] ∧
    e2O.length = e2F.length ∧ e3H.length = e3F.length ∧ e3O.length = e3F.length ∧ e8.length = e2F.length ∧ e5F.length = 8 := by decide

attribute [local irreducible] e8 e0 e1F e1O e2F e2O e3F e3H e3O e4F e4H e4O e5F e5O e6F

set_option maxHeartbeats 4000000 in
theorem flive {w : World} (hT : Tab w) : Calls Tryd.prog 19 #[] w fun e w' => e = .returned (.bool true) ∧ Same w w' := by
  have HT := Lib.hid hT
  have E := Lib.hid example8
  have HO := Lib.hid (fopen (c := 3) (View.blk (Blk.newA w 3 #[.int .i64 0, .int .i64 1, .int .i64 4])) (ns := [0, 1, 4]) (by simp) 8 (by omega) (by omega) (by decide))
  clear hT
  go_enter Tryd.func19, Tryd.ntmps19
  go_wp2_with fail
  go_at_call 20; refine HO.out.mono ?_; rintro e w1 ⟨m, f, fw, h, hw, o, ow, s, sw, rfl, hM, hs, hown⟩
  have M1 := Lib.hid (show MapOf w1 m f fw h hw o ow s sw e0 e8 e8 e0 by unfold e0 e8; exact hM)
  have S1 := Lib.hid (show Same w w1 from (Chg.alloc _ _ _).trans hs)
  have OWN := Lib.hid (show ∀ k, own9 m f fw h hw o ow s sw k → w.heap.size ≤ k from fun k hk => by have := hown k hk; simp at this; omega)
  clear hM hs hown
  go_wp2_with fail
  go_at_call 22; refine (falloc M1.out (HT.out.same S1.out)).mono ?_; rintro e w2 ⟨rfl, hM, hC⟩; rw [E.out.1, E.out.2.1]
  have M2 := Lib.hid (show MapOf w2 m f fw h hw o ow s sw e1F e8 e1O e0 by unfold e1F e1O; exact hM)
  have S2 := Lib.hid (show Same w w2 from S1.out.trans' hC (fun j hj e => by have h1 := OWN.out fw (by simp [own9]); have h2 := OWN.out ow (by simp [own9]); omega))
  clear hM hC
  go_wp2_with fail
  go_at_call 24; refine (fallocRun M2.out (HT.out.same S2.out) 2).mono ?_; rintro e w3 ⟨rfl, hM, hC⟩; rw [E.out.2.2.1, E.out.2.2.2.1]
  have M3 := Lib.hid (show MapOf w3 m f fw h hw o ow s sw e2F e8 e2O e0 by unfold e2F e2O; exact hM)
  have S3 := Lib.hid (show Same w w3 from S2.out.trans' hC (fun j hj e => by have h1 := OWN.out fw (by simp [own9]); have h2 := OWN.out ow (by simp [own9]); omega))
  clear hM hC
  go_wp2_with fail
  go_at_call 25; refine (ffree M3.out (E.out.2.2.2.2.2.2.2.2.2.2.2.2.1) (E.out.2.2.2.2.2.2.2.2.2.1) 4).mono ?_; rintro e w4 ⟨rfl, hM, hC⟩; rw [E.out.2.2.2.2.1]
  have M4 := Lib.hid (show MapOf w4 m f fw h hw o ow s sw e3F e3H e3O e0 by unfold e3F e3H e3O; exact hM)
  have S4 := Lib.hid (show Same w w4 from S3.out.trans' hC (fun j hj e => by have h1 := OWN.out fw (by simp [own9]); have h2 := OWN.out ow (by simp [own9]); have h3 := OWN.out hw (by simp [own9]); have h4 := OWN.out m (by simp [own9]); omega))
  clear hM hC
  go_wp2_with fail
  go_at_call 25; refine (ffree M4.out (E.out.2.2.2.2.2.2.2.2.2.2.1) (E.out.2.2.2.2.2.2.2.2.2.2.2.1) 2).mono ?_; rintro e w5 ⟨rfl, hM, hC⟩; rw [E.out.2.2.2.2.2.1]
  have M5 := Lib.hid (show MapOf w5 m f fw h hw o ow s sw e4F e4H e4O e0 by unfold e4F e4H e4O; exact hM)
  have S5 := Lib.hid (show Same w w5 from S4.out.trans' hC (fun j hj e => by have h1 := OWN.out fw (by simp [own9]); have h2 := OWN.out ow (by simp [own9]); have h3 := OWN.out hw (by simp [own9]); have h4 := OWN.out m (by simp [own9]); omega))
  clear hM hC
  go_wp2_with fail
  go_at_call 22; refine (falloc M5.out (HT.out.same S5.out)).mono ?_; rintro e w6 ⟨rfl, hM, hC⟩; rw [E.out.2.2.2.2.2.2.1, E.out.2.2.2.2.2.2.2.1]
  have M6 := Lib.hid (show MapOf w6 m f fw h hw o ow s sw e5F e4H e5O e0 by unfold e5F e5O; exact hM)
  have S6 := Lib.hid (show Same w w6 from S5.out.trans' hC (fun j hj e => by have h1 := OWN.out fw (by simp [own9]); have h2 := OWN.out ow (by simp [own9]); have h3 := OWN.out hw (by simp [own9]); have h4 := OWN.out m (by simp [own9]); omega))
  clear hM hC
  go_wp2_with fail
  go_at_call 26; refine (fcommit M6.out (HT.out.same S6.out)).mono ?_; rintro e w7 ⟨rfl, h', hw', o', ow', s', sw', hM, hC, -⟩
  have M7 := Lib.hid (show MapOf w7 m f fw h' hw' o' ow' s' sw' e6F e8 e8 e6F by
    rw [E.out.2.2.2.2.2.2.2.2.2.2.2.2.2] at hM
    unfold e6F e8
    exact hM)
  have S7 := Lib.hid (show Same w w7 from S6.out.trans' hC (fun j hj e => by have h1 := OWN.out fw (by simp [own9]); have h2 := OWN.out ow (by simp [own9]); have h3 := OWN.out hw (by simp [own9]); have h4 := OWN.out m (by simp [own9]); omega))
  clear hM hC
  go_wp2_with fail
  go_at_call 27; refine (ftaken M7.out).mono ?_; rintro e w8 ⟨v, rfl, hn⟩; rw [E.out.2.2.2.2.2.2.2.2.1] at hn
  obtain ⟨av, cv, rfl, hv⟩ := hn.form
  have HV := Lib.hid hv
  have S8 := Lib.hid (S7.out.trans hn.2.1)
  clear hn hv
  go_wp2_with fail
  go_at_call 29; refine (lequal (xs := [0, 1, 2, 5, 6]) (ys := [0, 1, 2, 5, 6]) (HV.out.same (Chg.alloc _ _ _)) (View.blk (Blk.newA w8 3 #[.int .i64 0, .int .i64 1, .int .i64 2, .int .i64 5, .int .i64 6])) (by simp) (by simp)).mono ?_; rintro e w9 ⟨rfl, q, rfl⟩
  go_wp2_with fail
  go_ret
  exact ⟨rfl, (S8.out.trans (Chg.alloc _ _ _)).trans (Chg.drewN _ _ _)⟩

end Go.Proofs.YtbebjpdbnpdpfaaDoor
