/- The walks of package freemap: pages taken in a row. -/
import Derived.Test.YtbebjpdbnpdpfaaDoorB1
set_option maxRecDepth 100000
set_option linter.unusedVariables false
set_option linter.unusedSimpArgs false
namespace Go.Proofs.YtbebjpdbnpdpfaaDoor
open Go.RowKit

/-- The pages from p on, so many, dropped; added. -/
def dropTo (l : List Bool) (p : Nat) : Nat → List Bool
  | 0 => l
  | i + 1 => dropL (dropTo l p i) ((p + i : Nat) : Int)
def addTo (l : List Bool) (p : Nat) : Nat → List Bool
  | 0 => l
  | i + 1 => addL (addTo l p i) ((p + i : Nat) : Int)
theorem dropL_len (l : List Bool) (q : Int) : (dropL l q).length = l.length := by unfold dropL; split <;> simp
theorem addL_len (l : List Bool) (q : Int) : (addL l q).length = l.length := by unfold addL; split <;> simp
theorem dropTo_len (l : List Bool) (p i : Nat) : (dropTo l p i).length = l.length := by
  induction i with
  | zero => rfl
  | succ i ih => rw [dropTo, dropL_len, ih]
theorem addTo_len (l : List Bool) (p i : Nat) : (addTo l p i).length = l.length := by
  induction i with
  | zero => rfl
  | succ i ih => rw [addTo, addL_len, ih]

section
variable {w : World} {m f fw h hw o ow s sw : Nat} {F H O S : List Bool}
theorem ftake (M : MapOf w m f fw h hw o ow s sw F H O S) (p n : Nat) (hp : p ≤ 4096) (hn : n ≤ 4096) : Calls Tryd.prog 76 #[at0 m, .int .i64 p, .int .i64 n] w fun e w' => (∃ v, e = .returned v) ∧ MapOf w' m f fw h hw o ow s sw (dropTo F p n) H (addTo O p n) S ∧ Chg (fun k => k = fw ∨ k = ow) w w' := by
  have HM := Lib.hid M
  clear M
  go_enter Tryd.func76, Tryd.ntmps76
  go_wp2_with fail
  go_loopw [8] (fun i wr => ∃ k : Nat, k ≤ n ∧ i = .int .i64 k ∧ Hid (MapOf wr m f fw h hw o ow s sw (dropTo F p k) H (addTo O p k) S ∧ Chg (fun k => k = fw ∨ k = ow) w wr)) (fun i _ => n - (intOf i).toNat)
  case atStart => exact ⟨0, Nat.zero_le _, rfl, HM.out, Chg.refl _ _⟩
  case round =>
    obtain ⟨k, hk, rfl, HR⟩ := hrel
    obtain ⟨c0, c1, c2, c3⟩ := HR.out.1.cells
    by_cases hlt : k < n
    · have hi : (k : Int) < n := by omega
      have hwr : IntKind.i64.wrap ((p : Int) + (k : Int)) = ((p + k : Nat) : Int) := by rw [IntWalk.i64_in _ (by omega)]; omega
      go_wp2_with fail
      go_at_call 15; refine (xdrop HR.out.1.sf _).mono ?_; rintro e w1 ⟨rfl, h1, h2⟩
      have M1 := HR.out.1.setF h1 h2
      have H1 := Lib.hid (⟨M1, h2⟩ : _ ∧ _)
      obtain ⟨d0, d1, d2, d3⟩ := M1.cells
      clear h1 h2 M1
      go_wp2_with fail
      go_at_call 14; refine (xadd H1.out.1.so _).mono ?_; rintro e w2 ⟨rfl, h1, h2⟩
      have M2 := H1.out.1.setO h1 h2
      have H2 := Lib.hid (⟨M2, h2⟩ : _ ∧ _)
      clear h1 h2 M2 d0 d1 d2 d3
      go_wp2_with fail
      go_roundw
      case rel =>
        refine ⟨k + 1, by omega, by go_num, ?_, (HR.out.2.trans' H1.out.2 (fun j _ e => .inl e)).trans' H2.out.2 (fun j _ e => .inr e)⟩
        have := H2.out.1
        rw [dropTo, addTo]
        simpa using this
      case measure => simp [intOf]; omega
    · go_wp2_with fail
      refine bodyPost_end (results_none rfl _ _ _) rfl ?_
      obtain rfl : k = n := by omega
      exact ⟨⟨_, rfl⟩, HR.out⟩
end

end Go.Proofs.YtbebjpdbnpdpfaaDoor
