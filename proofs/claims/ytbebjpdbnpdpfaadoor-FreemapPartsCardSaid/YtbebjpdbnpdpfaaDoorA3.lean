/- The walks of package extent: bits counted, the lowest bit, the first page, the set made, cloned, turned round. -/
import Derived.Test.YtbebjpdbnpdpfaaDoorA2
import Derived.Test.YtbebjpdbnpdpfaaDoorM2
import Derived.Test.YtbebjpdbnpdpfaaDoorM3
set_option maxRecDepth 100000
set_option linter.unusedVariables false
namespace Go.Proofs.YtbebjpdbnpdpfaaDoor
open Go.RowKit

theorem u64_wrap (n : Nat) (h : n < 18446744073709551616) : IntKind.u64.wrap (n : Int) = (n : Int) := by
  simp only [IntKind.wrap, IntKind.bits, IntKind.signed, Bool.false_and]
  simp
  omega

theorem ones_s1 (x : Nat) (h : x < 2 ^ 64) : IntKind.u64.wrap (bits BinOp.and IntKind.u64 ((x : Int) / 2) 6148914691236517205 + bits BinOp.and IntKind.u64 (x : Int) 6148914691236517205) = ((Pop.s1 32 x : Nat) : Int) := by
  have e : ((x : Int) / 2) = ((x / 2 : Nat) : Int) := by omega
  have c : (6148914691236517205 : Int) = ((6148914691236517205 : Nat) : Int) := rfl
  have hr : Pop.rep 4 1 32 = 6148914691236517205 := by decide
  rw [e, c, u64_and_nat _ _ (by omega) (by decide), u64_and_nat _ _ h (by decide), ← hr]
  have := (Pop.s1_sum 32 x).2.2
  unfold Pop.s1 at this ⊢
  rw [← Int.natCast_add]
  exact u64_wrap _ this

theorem ones_s2 (x : Nat) (h : x < 4 ^ 32) (hd : Pop.dle 4 2 32 x) : IntKind.u64.wrap (bits BinOp.and IntKind.u64 ((x : Int) / 4) 3689348814741910323 + bits BinOp.and IntKind.u64 (x : Int) 3689348814741910323) = ((Pop.s2 16 x : Nat) : Int) := by
  have e : ((x : Int) / 4) = ((x / 4 : Nat) : Int) := by omega
  have c : (3689348814741910323 : Int) = ((3689348814741910323 : Nat) : Int) := rfl
  have hr : Pop.rep 16 3 16 = 3689348814741910323 := by decide
  have h' : x < 18446744073709551616 := h
  rw [e, c, u64_and_nat _ _ (by omega) (by decide), u64_and_nat _ _ h' (by decide), ← hr]
  have := (Pop.s2_sum 16 x hd).2.2
  unfold Pop.s2 at this ⊢
  rw [← Int.natCast_add]
  exact u64_wrap _ this

theorem small_digits (n : Nat) : ∀ x, x < 16 ^ n → Pop.dle 16 4 n x → 15 * x + 4 ≤ 4 * 16 ^ n := by
  induction n with
  | zero => intro x h _; simp at h; omega
  | succ n ih =>
    intro x h hd
    rw [Nat.pow_succ] at h ⊢
    have := ih (x / 16) (by omega) hd.2
    have h1 : x % 16 ≤ 4 := hd.1
    omega

theorem ones_s3 (x : Nat) (h : x < 16 ^ 16) (hd : Pop.dle 16 4 16 x) : bits BinOp.and IntKind.u64 (IntKind.u64.wrap ((x : Int) / 16 + (x : Int))) 1085102592571150095 = ((Pop.s3 8 x : Nat) : Int) := by
  have e : ((x : Int) / 16 + (x : Int)) = ((x / 16 + x : Nat) : Int) := by omega
  have c : (1085102592571150095 : Int) = ((1085102592571150095 : Nat) : Int) := rfl
  have hr : Pop.rep 256 15 8 = 1085102592571150095 := by decide
  have hs := small_digits 16 x h hd
  have hlt : x / 16 + x < 18446744073709551616 := by omega
  rw [e, c, u64_wrap _ hlt, u64_and_nat _ _ hlt (by decide), ← hr]
  rfl

theorem wsum (c q : Nat) (Q : Int) (hQ : Q = (q : Nat)) (h : c + c / q < 2 ^ 64) : IntKind.u64.wrap ((c : Int) + (c : Int) / Q) = ((c + c / q : Nat) : Int) := by
  subst hQ
  have e : ((c : Int) + (c : Int) / (q : Int)) = ((c + c / q : Nat) : Int) := by simp
  rw [e]
  exact u64_wrap _ h
theorem wraps_i64 (n : Int) (h0 : 0 ≤ n) (h1 : n < 2 ^ 63) : IntKind.i64.wrap n = n := by
  rw [IntKind.wrap_i64]; omega

theorem xones (x : Nat) (w : World) (hx : x < 2 ^ 64) : Calls Tryd.prog 90 #[.int .u64 x] w fun e w' => e = .returned (.int .i64 (Pop.dsum 2 64 x : Nat)) ∧ w = w' := by
  obtain ⟨a1, b1, c1⟩ := Pop.s1_sum 32 x
  obtain ⟨a2, b2, c2⟩ := Pop.s2_sum 16 (Pop.s1 32 x) b1
  obtain ⟨a3, b3, c3⟩ := Pop.s3_sum 8 (Pop.s2 16 (Pop.s1 32 x)) c2 b2
  obtain ⟨d1, d2, d3, d4⟩ := Pop.last _ b3 c3
  have HX := Lib.hid hx
  have H1 := Lib.hid (ones_s1 x hx)
  have H2 := Lib.hid (ones_s2 _ c1 b1)
  have H3 := Lib.hid (ones_s3 _ c2 b2)
  have HD := Lib.hid (⟨d1, d2, d3, d4.trans (a3.trans (a2.trans a1))⟩ : _ ∧ _ ∧ _ ∧ _)
  clear a1 b1 c1 a2 b2 c2 a3 b3 c3 d1 d2 d3 d4
  have h1 : (x : Int) < 18446744073709551616 := by omega
  clear hx
  have h2 : (0 : Int) ≤ x := by omega
  go_enter Tryd.func90, Tryd.ntmps90
  go_wp2
  go_ret
  refine ⟨ret_int ?_, rfl⟩
  rw [H1.out, H2.out]
  generalize Pop.s2 16 (Pop.s1 32 x) = y at *
  rw [H3.out]
  generalize Pop.s3 8 y = c at *
  obtain ⟨d1, d2, d3, d4⟩ := HD.out
  clear H1 H2 H3 HD
  rw [wsum c 256 256 rfl d1]
  generalize c + c / 256 = z at *
  rw [wsum z 65536 65536 rfl d2]
  generalize z + z / 65536 = u at *
  have d3' : u + u / 4294967296 < 2 ^ 64 := Nat.lt_trans d3 (by decide)
  rw [wsum u 4294967296 4294967296 rfl d3']
  generalize u + u / 4294967296 = v at *
  have hv : (v : Int) < 9223372036854775808 := by omega
  rw [IntWalk.wrap64_in _ ⟨by omega, by omega⟩]
  have := bits_mask .i64 63 (by decide) wraps_i64 7 (by decide) (v : Int) (by omega) hv
  rw [show ((2 : Int) ^ 7 - 1) = 127 from rfl] at this
  rw [this]
  have e : Pop.dsum 2 (2 * 32) x = Pop.dsum 2 64 x := rfl
  rw [← e, ← d4]
  simp

end Go.Proofs.YtbebjpdbnpdpfaaDoor
