/- The walks of package extent: the pages that are not in a set. -/
import Derived.Test.YtbebjpdbnpdpfaaDoorA5
import Derived.Test.YtbebjpdbnpdpfaaDoorM5
set_option maxRecDepth 100000
set_option linter.unusedVariables false
set_option linter.unusedSimpArgs false
namespace Go.Proofs.YtbebjpdbnpdpfaaDoor
open Go.RowKit

theorem xor_all (x : Nat) (h : x < 2 ^ 64) : bits BinOp.xor IntKind.u64 (if IntKind.u64.signed = true then -1 else IntKind.u64.max) (x : Int) = ((18446744073709551615 - x : Nat) : Int) := by
  have e : (if IntKind.u64.signed = true then -1 else IntKind.u64.max) = ((18446744073709551615 : Nat) : Int) := by decide
  rw [e, u64_xor_nat _ _ (by decide) h]
  congr 1
  refine Nat.eq_of_testBit_eq fun j => ?_
  rw [Nat.testBit_xor, testBit_compl h, testBit_top]
  by_cases hj : j < 64
  · simp [hj]
  · rw [Nat.testBit_lt_two_pow (Nat.lt_of_lt_of_le h (Nat.pow_le_pow_right (by decide) (by omega)))]
    simp [hj]

theorem and_low (y k : Nat) (hk : k < 64) (hy : y < 2 ^ 64) : bits BinOp.and IntKind.u64 (y : Int) (IntKind.u64.wrap (IntKind.u64.wrap (2 ^ k) - 1)) = ((y &&& (2 ^ k - 1) : Nat) : Int) := by
  have h1 : 2 ^ k < 2 ^ 64 := Nat.pow_lt_pow_right (by decide) hk
  have h2 : 0 < 2 ^ k := Nat.pow_pos (by decide)
  have e : ((2 : Int) ^ k) = ((2 ^ k : Nat) : Int) := by simp
  have e2 : ((2 ^ k : Nat) : Int) - 1 = ((2 ^ k - 1 : Nat) : Int) := by omega
  rw [e, u64_wrap _ h1, e2, u64_wrap _ (by omega), u64_and_nat _ _ hy (by omega)]

theorem xnot {w : World} {b bw : Nat} {l : List Bool} (h : SetAt w b bw l) :
    Calls Tryd.prog 71 #[.pointer (some ⟨b, 0, none⟩)] w fun e w' => ∃ b' bw', e = .returned (.pointer (some ⟨b', 0, none⟩)) ∧ NewSet w w' b' bw' (notB l) := by
  go_enter Tryd.func71, Tryd.ntmps71
  go_wp2_with fail
  refine (xclone h).mono ?_
  rintro e w1 ⟨b', bw', rfl, ⟨hne, hpos, hsm, ws, sp, cap, hB, hst, hwd⟩, hSame, hb1, hb2⟩
  have hc := hst.cell 0
  have hs : w1.cell? ⟨b', 1, none⟩ = some (.slice (some ⟨bw', 0, none⟩) ws.length cap) := hst.cell 1
  have hlen : ws.length ≤ 32 := by rw [hB.len]; omega
  have HST := Lib.hid hst
  have HWD := Lib.hid hwd
  have HB := Lib.hid hB
  clear hst hwd hB h
  go_wp2
  go_loopw [4, 15] (fun _ i wr => ∃ k : Nat, k ≤ ws.length ∧ i = .int .i64 k ∧ Hid (Blk wr b' 81 [.int .i64 (l.length : Nat), .slice (some ⟨bw', 0, none⟩) ws.length cap] ∧ Blk wr bw' 92 (u64s (mix ws k) ++ sp) ∧ Chg (fun j => j = bw') w1 wr)) (fun _ i _ => ws.length - (intOf i).toNat)
  case atStart =>
    exact ⟨0, Nat.zero_le _, rfl, HST.out, by rw [mix_zero]; exact HWD.out, Chg.refl _ _⟩
  case round =>
    obtain ⟨k, hk, rfl, HR⟩ := hrel
    have hc' : wr.cell? ⟨b', 0, none⟩ = some (.int .i64 (l.length : Nat)) := HR.out.1.cell 0
    have hs' : wr.cell? ⟨b', 1, none⟩ = some (.slice (some ⟨bw', 0, none⟩) ws.length cap) := HR.out.1.cell 1
    by_cases hlt : k < ws.length
    · obtain ⟨x, hx, hf, hxe, hxl⟩ : ∃ x : Nat, wr.cell? ⟨bw', k, none⟩ = some (.int .u64 x) ∧ wr.frozen? ⟨bw', k, none⟩ = false ∧ Hid (ws[k] = x) ∧ x < 2 ^ 64 := by
        refine ⟨ws[k], ?_, HR.out.2.1.frozen _, rfl, HB.out.lt k hlt⟩
        rw [HR.out.2.1.cell, List.getElem?_append_left (by simp [mix_len]; exact hlt), List.getElem?_map, mix_get hlt]
        rfl
      have hk1 : (k : Int) < ws.length := by omega
      go_wp2
      refine region_tail 14 (by kernel_rfl) (by kernel_rfl) ?_
      simp only [List.take_succ_cons, List.take_zero, List.drop_succ_cons, List.drop_zero, World.drew_drewN]
      repeat still_step
      refine wpStill_nil ?_
      go_wp2
      rw [xor_all x hxl]
      refine ⟨⟨k + 1, by omega, by go_num, ?_⟩, by simp [intOf]; omega⟩
      obtain ⟨h1, h2, h3⟩ := HR.out
      refine ⟨(h1.set_ne (p := ⟨bw', k, none⟩) (fun e => hne e.symm) _).same (Chg.drew _ _), ?_, (h3.trans (Chg.setCell (S := fun j => j = bw') _ rfl _)).trans (Chg.drew _ _)⟩
      have := (h2.set k (.int .u64 ((18446744073709551615 - x : Nat) : Int))).same (Chg.drew _ _)
      rw [List.set_append_left _ _ (by simp [mix_len]; exact hlt), ← List.map_set (f := fun x : Nat => Value.int .u64 (x : Int)), ← hxe.out, mix_set hlt] at this
      rw [← hxe.out]
      exact this
    · obtain rfl : k = ws.length := by omega
      have hmix := mix_all ws
      obtain ⟨h1, h2, h3⟩ := HR.out
      rw [hmix] at h2
      clear hmix
      by_cases hm : (l.length : Int) % 64 ≤ 0
      · have hnew : NewSet w wr b' bw' (notB l) :=
          ⟨⟨hne, by simpa using hpos, by simpa using hsm, _, sp, cap, HB.out.not0 (by omega), by simpa using h1, h2⟩, hSame.trans' h3 (fun j hj e => by omega), hb1, hb2⟩
        have HN := Lib.hid hnew
        clear hnew h1 h2 h3
        go_wp2
        go_ret
        exact ⟨b', bw', rfl, HN.out⟩
      · have h1l : 1 ≤ ws.length := by rw [HB.out.len]; omega
        obtain ⟨y, hy, hx, hf⟩ : ∃ y : Nat, Hid ((ws.map (18446744073709551615 - ·))[ws.length - 1]? = some y) ∧ wr.cell? ⟨bw', ws.length - 1, none⟩ = some (.int .u64 y) ∧ wr.frozen? ⟨bw', ws.length - 1, none⟩ = false := by
          have hg : (ws.map (18446744073709551615 - ·))[ws.length - 1]? = some (18446744073709551615 - ws[ws.length - 1]) := by
            rw [List.getElem?_map, List.getElem?_eq_getElem (by omega)]
            rfl
          refine ⟨_, hg, ?_, h2.frozen _⟩
          rw [h2.cell, List.getElem?_append_left (by simp; omega), List.getElem?_map, hg]
          rfl
        have H1 := Lib.hid h1
        have H2 := Lib.hid h2
        have H3 := Lib.hid h3
        clear h1 h2 h3
        have q1 : IntKind.i64.wrap ((ws.length : Int) - 1) = (ws.length : Int) - 1 := IntWalk.i64_in _ (by omega)
        have q2 : (0 : Int) ≤ (ws.length : Int) - 1 := by omega
        have q3 : ((ws.length : Int) - 1).toNat = ws.length - 1 := by omega
        have q4 : (ws.length : Int) - 1 < ws.length := by omega
        have q5 : (0 : Int) ≤ (l.length : Int) % 64 := by omega
        have q6 : IntKind.u64.wrap ((l.length : Int) % 64) = (l.length : Int) % 64 := by rw [show ((l.length : Int) % 64) = ((l.length % 64 : Nat) : Int) by omega]; exact u64_wrap _ (by omega)
        have q8 : (1 : Int) ≤ (ws.length : Int) := by omega
        have q7 : ¬ ((l.length : Int) % 64 < 0) := by omega
        go_wp2
        refine region_tail 18 (by kernel_rfl) (by kernel_rfl) ?_
        simp only [List.take_succ_cons, List.take_zero, List.drop_succ_cons, List.drop_zero]
        repeat still_step
        refine wpStill_nil ?_
        go_wp2
        go_ret
        have hyl : y < 2 ^ 64 := by
          have := hy.out
          rw [List.getElem?_map] at this
          cases h : ws[ws.length - 1]? with
          | none => rw [h] at this; simp at this
          | some z => rw [h] at this; simp at this; omega
        rw [and_low _ _ (Nat.mod_lt _ (by decide)) hyl]
        refine ⟨b', bw', rfl, ⟨hne, by simpa using hpos, by simpa using hsm, _, sp, cap, HB.out.not1 (l.length % 64) (ws.length - 1) rfl (by omega) (by omega) y hy.out, ?_, ?_⟩, ?_, hb1, hb2⟩
        · have := (H1.out.set_ne (p := ⟨bw', ws.length - 1, none⟩) (fun e => hne e.symm) (.int .u64 ((y &&& (2 ^ (l.length % 64) - 1) : Nat) : Int))).same (Chg.drew _ _)
          simpa using this
        · have := (H2.out.set (ws.length - 1) (.int .u64 ((y &&& (2 ^ (l.length % 64) - 1) : Nat) : Int))).same (Chg.drew _ _)
          rw [List.set_append_left _ _ (by simp; omega), ← List.map_set (f := fun x : Nat => Value.int .u64 (x : Int))] at this
          exact this
        · exact hSame.trans' ((H3.out.trans (Chg.setCell (S := fun j => j = bw') _ rfl _)).trans (Chg.drew _ _)) (fun j hj e => by omega)

end Go.Proofs.YtbebjpdbnpdpfaaDoor
