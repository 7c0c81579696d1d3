/- The walks of package extent: the lowest bit of a word, how many pages, the first page from one on. -/
import Derived.Test.YtbebjpdbnpdpfaaDoorA3
import Derived.Test.YtbebjpdbnpdpfaaDoorM4
set_option maxRecDepth 100000
set_option linter.unusedVariables false
namespace Go.Proofs.YtbebjpdbnpdpfaaDoor
open Go.RowKit

/-- The library's table lies where the program has laid it. -/
def Tab (w : World) : Prop := ∀ (i : Nat) (k : Nat), Low.tab[i]? = some k → w.cell? ⟨0, i, none⟩ = some (.int .u8 (k : Nat))

theorem Tab.pos {w : World} (h : Tab w) : 0 < w.heap.size := by
  have := h 0 0 rfl
  unfold World.cell? at this
  rcases Nat.lt_or_ge 0 w.heap.size with h | h
  · exact h
  · simp [Array.getElem?_eq_none h] at this
theorem Tab.keep {S : Nat → Prop} {w w' : World} (h : Tab w) (hc : Chg S w w') (h0 : ¬ S 0) : Tab w' :=
  fun i k hk => (World.cell?_of_block (hc.keep 0 h.pos h0)).trans (h i k hk)
theorem Tab.same {w w' : World} (h : Tab w) (hc : Same w w') : Tab w' := h.keep hc id

theorem neg_u64 (x : Nat) (h0 : 0 < x) (h : x < 2 ^ 64) : IntKind.u64.wrap (-(x : Int)) = ((2 ^ 64 - x : Nat) : Int) := by
  simp only [IntKind.wrap, IntKind.bits, IntKind.signed, Bool.false_and]
  simp
  omega

theorem xtz (k m x : Nat) (hxe : x = 2 ^ k * (2 * m + 1)) (w : World) (hT : Tab w) (hx : x < 2 ^ 64) : Calls Tryd.prog 91 #[.int .u64 x] w fun e w' => e = .returned (.int .i64 k) ∧ w = w' := by
  have hp : 0 < 2 ^ k := Nat.pow_pos (by decide)
  have hpos : 0 < x := by rw [hxe]; exact Nat.mul_pos hp (by omega)
  have hkx : 2 ^ k ≤ x := by rw [hxe]; exact Nat.le_mul_of_pos_right _ (by omega)
  have hk : k < 64 := by
    rcases Nat.lt_or_ge k 64 with h | h
    · exact h
    · have h1 : 2 ^ 64 ≤ 2 ^ k := Nat.pow_le_pow_right (by decide) h
      omega
  have ha := Low.and_neg k m x hxe hx
  obtain ⟨i, hi⟩ : ∃ i, i = 2 ^ k * 285870213051353865 % 18446744073709551616 / 288230376151711744 := ⟨_, rfl⟩
  have hc := hT i k (by rw [hi]; exact Low.tab_at k hk)
  have hi64 : i < 64 := by omega
  have hbits : bits BinOp.and IntKind.u64 (x : Int) (IntKind.u64.wrap (-(x : Int))) = ((2 ^ k : Nat) : Int) := by
    rw [neg_u64 x hpos hx, u64_and_nat _ _ hx (by omega), ha]
  have hmul : IntKind.u64.wrap (((2 ^ k : Nat) : Int) * 285870213051353865) / 288230376151711744 = (i : Int) := by
    rw [hi]
    simp only [IntKind.wrap, IntKind.bits, IntKind.signed, Bool.false_and]
    generalize 2 ^ k = z
    simp
  have hne : ((x : Int) == 0) = false := by simp; omega
  have hm : IntKind.u64.wrap (bits BinOp.and IntKind.u64 (x : Int) (IntKind.u64.wrap (-(x : Int))) * 285870213051353865) / 288230376151711744 = (i : Int) := by rw [hbits, hmul]
  have hx1 : (x : Int) < 18446744073709551616 := by omega
  have hx0 : (0 : Int) ≤ x := by omega
  have hi0 : (0 : Int) ≤ i := by omega
  have hi1 : (i : Int) < 64 := by omega
  have hk1 : (k : Int) < 64 := by omega
  clear hmul hbits hi ha hxe hx hkx hpos hp
  go_enter Tryd.func91, Tryd.ntmps91
  go_wp2
  go_ret
  exact ⟨rfl, rfl⟩

theorem dsum_le (n : Nat) : ∀ x, Pop.dsum 2 n x ≤ n := by
  induction n with
  | zero => intro x; simp [Pop.dsum]
  | succ n ih => intro x; have := ih (x / 2); simp only [Pop.dsum]; omega
theorem popsum_le (ws : List Nat) : popsum ws ≤ 64 * ws.length := by
  induction ws with
  | nil => simp [popsum]
  | cons a t ih =>
    have := dsum_le 64 a
    simp only [popsum, List.map_cons, List.sum_cons, List.length_cons] at *
    omega
theorem popsum_snoc (ws : List Nat) (k : Nat) (h : k < ws.length) : popsum (ws.take (k + 1)) = popsum (ws.take k) + Pop.dsum 2 64 ws[k] := by
  rw [List.take_succ_eq_append_getElem h]
  simp only [popsum, List.map_append, List.sum_append, List.map_cons, List.map_nil, List.sum_cons, List.sum_nil, Nat.add_zero]

theorem xlen_pop {w : World} {b bw : Nat} {l : List Bool} {ws : List Nat} {sp : List Value} {cap : Nat} (hpos : 0 < l.length) (hsm : l.length ≤ 2048) (hB : Bits l ws)
    (hst : Blk w b 81 [.int .i64 (l.length : Nat), .slice (some ⟨bw, 0, none⟩) ws.length cap]) (hwd : Blk w bw 92 (u64s ws ++ sp)) :
    Calls Tryd.prog 51 #[.pointer (some ⟨b, 0, none⟩)] w fun e w' => e = .returned (.int .i64 (popsum ws : Nat)) ∧ w = w' := by
  have hc : w.cell? ⟨b, 0, none⟩ = some (.int .i64 (l.length : Nat)) := hst.cell 0
  have hs : w.cell? ⟨b, 1, none⟩ = some (.slice (some ⟨bw, 0, none⟩) ws.length cap) := hst.cell 1
  have hn : (0 : Int) < (l.length : Nat) := by omega
  have hlen : ws.length ≤ 32 := by rw [hB.len]; omega
  have hcell : ∀ i (h : i < ws.length), w.cell? ⟨bw, i, none⟩ = some (.int .u64 (ws[i] : Nat)) := fun i h => (hwd.cell _).trans (u64s_get _ h)
  have HC := Lib.hid hcell
  have HB := Lib.hid hB
  clear hst hwd hcell hB
  go_enter Tryd.func51, Tryd.ntmps51
  go_wp2_with (go_at_call 54; refine (xnone_some _ _ _ hc hn).mono ?_; rintro e w' ⟨rfl, rfl⟩)
  go_loop [3, 13] (fun n i => ∃ k : Nat, k ≤ ws.length ∧ i = .int .i64 k ∧ n = .int .i64 (popsum (ws.take k) : Nat)) (fun _ i => ws.length - (intOf i).toNat)
  case atStart => exact ⟨0, Nat.zero_le _, rfl, rfl⟩
  case round =>
    obtain ⟨k, hk, rfl, rfl⟩ := hrel
    have hle := popsum_le (ws.take k)
    have hl : (ws.take k).length ≤ k := List.length_take_le _ _
    by_cases hlt : k < ws.length
    · obtain ⟨x, hx, hxl, hsn, hd⟩ : ∃ x : Nat, w.cell? ⟨bw, k, none⟩ = some (.int .u64 x) ∧ x < 2 ^ 64 ∧ Hid (popsum (ws.take (k + 1)) = popsum (ws.take k) + Pop.dsum 2 64 x) ∧ Pop.dsum 2 64 x ≤ 64 :=
        ⟨ws[k], HC.out k hlt, HB.out.lt k hlt, popsum_snoc ws k hlt, dsum_le 64 _⟩
      go_wp2_with (go_at_call 90; refine (xones x _ hxl).mono ?_; rintro e w' ⟨rfl, rfl⟩)
      go_round
      case rel => exact ⟨k + 1, by omega, by go_num, by rw [hsn.out]; go_num⟩
      case measure => simp [intOf]; omega
    · go_wp2
      go_ret
      exact ⟨ret_int (by rw [List.take_of_length_le (by omega)]), rfl⟩

theorem xlen {w : World} {b bw : Nat} {l : List Bool} (h : SetAt w b bw l) :
    Calls Tryd.prog 51 #[.pointer (some ⟨b, 0, none⟩)] w fun e w' => e = .returned (.int .i64 (l.count true : Nat)) ∧ w = w' := by
  obtain ⟨hne, hpos, hsm, ws, sp, cap, hB, hst, hwd⟩ := h
  have := xlen_pop hpos hsm hB hst hwd
  rwa [popsum_count hB] at this

theorem top_shl (s : Nat) (hs : s < 64) : IntKind.u64.wrap (18446744073709551615 * 2 ^ s) = ((2 ^ 64 - 2 ^ s : Nat) : Int) := by
  have hp : 0 < 2 ^ s := Nat.pow_pos (by decide)
  have hle : 2 ^ s ≤ 2 ^ 64 := Nat.pow_le_pow_right (by decide) (by omega)
  simp only [IntKind.wrap, IntKind.bits, IntKind.signed, Bool.false_and]
  have e : ((2 : Int) ^ s) = ((2 ^ s : Nat) : Int) := by simp
  rw [e]
  generalize 2 ^ s = z at *
  simp
  omega

/-- First, where there may be such a page. -/
theorem xfirst_in {w : World} {b bw : Nat} {l : List Bool} (h : SetAt w b bw l) (hT : Tab w) (from_ : Int) (hf : from_ < l.length) :
    Calls Tryd.prog 63 #[.pointer (some ⟨b, 0, none⟩), .int .i64 from_] w fun e w' => e = .returned (.int .i64 (firstB l from_)) ∧ w = w' := by
  obtain ⟨hne, hpos, hsm, ws, sp, cap, hB, hst, hwd⟩ := h
  have hc : w.cell? ⟨b, 0, none⟩ = some (.int .i64 (l.length : Nat)) := hst.cell 0
  have hs : w.cell? ⟨b, 1, none⟩ = some (.slice (some ⟨bw, 0, none⟩) ws.length cap) := hst.cell 1
  have hn : (0 : Int) < (l.length : Nat) := by omega
  have hlen : ws.length ≤ 32 := by rw [hB.len]; omega
  have hcell : ∀ i (h : i < ws.length), w.cell? ⟨bw, i, none⟩ = some (.int .u64 (ws[i] : Nat)) := fun i h => (hwd.cell _).trans (u64s_get _ h)
  have HC := Lib.hid hcell
  have HB := Lib.hid hB
  have HT := Lib.hid hT
  obtain ⟨f, hff⟩ : ∃ f, from_.toNat = f := ⟨_, rfl⟩
  have hfl : f < l.length := by omega
  have hfw : f / 64 < ws.length := div_lt hB hfl
  have HF := Lib.hid hff
  have hmask := mask_start f
  have HM := Lib.hid hmask
  have htop := Lib.hid (top_shl (f % 64) (Nat.mod_lt _ (by decide)))
  have hneg : from_ < 0 ∨ from_ = f := by omega
  clear hst hwd hcell hB hT hff hmask
  rcases hneg with hneg | rfl
  all_goals
    go_enter Tryd.func63, Tryd.ntmps63
    go_wp2_with (go_at_call 54; refine (xnone_some _ _ _ hc hn).mono ?_; rintro e w' ⟨rfl, rfl⟩)
    go_loop [5, 6] (fun mv i => ∃ k mk : Nat, f / 64 ≤ k ∧ k ≤ ws.length ∧ i = .int .i64 k ∧ mv = .int .u64 mk ∧ Hid (Mask f k mk ∧ ∀ p, f ≤ p → p < 64 * k → l.getD p false = false)) (fun _ i => ws.length - (intOf i).toNat)
    case atStart =>
      first
        | exact ⟨f / 64, 2 ^ 64 - 2 ^ (f % 64), Nat.le_refl _, by omega, by simp, by rw [htop.out], HM.out, fun p h1 h2 => by omega⟩
        | (have hf0 : f = 0 := by have := HF.out; omega
           exact ⟨0, 18446744073709551615, by omega, by omega, rfl, rfl, mask_next f 0 (by omega), fun p h1 h2 => by omega⟩)
    case round =>
      obtain ⟨k, mk, hk1, hk2, rfl, rfl, HR⟩ := hrel
      by_cases hlt : k < ws.length
      · obtain ⟨x, hx, hxl, hxe⟩ : ∃ x : Nat, w.cell? ⟨bw, k, none⟩ = some (.int .u64 x) ∧ x < 2 ^ 64 ∧ Hid (ws[k] = x) := ⟨ws[k], HC.out k hlt, HB.out.lt k hlt, rfl⟩
        have hand : bits BinOp.and IntKind.u64 (x : Int) (mk : Int) = ((x &&& mk : Nat) : Int) := u64_and_nat _ _ hxl HR.out.1.lt
        have hal : x &&& mk < 2 ^ 64 := Nat.lt_of_le_of_lt Nat.and_le_left hxl
        by_cases hz : x &&& mk = 0
        · have hz' : (((x &&& mk : Nat) : Int) == 0) = true := by rw [hz]; rfl
          have HZ := Lib.hid hz
          clear hz
          go_wp2
          go_round
          case rel =>
            have hzz : ws[k] &&& mk = 0 := by rw [hxe.out]; exact HZ.out
            exact ⟨k + 1, 18446744073709551615, by omega, by omega, by go_num, rfl, mask_next f (k + 1) (by omega), mask_zero HB.out hlt HR.out.1 hzz HR.out.2⟩
          case measure => simp [intOf]; omega
        · have hz' : (((x &&& mk : Nat) : Int) == 0) = false := by simp; omega
          obtain ⟨t, m, ht⟩ := Low.odd_part _ hz
          have HT2 := Lib.hid ht
          have hh := mask_hit (from_ := _) HB.out hlt HR.out.1 (by rw [hxe.out]; exact ht) HR.out.2 HF.out
          have ht64 := hh.2
          have HH := Lib.hid hh.1
          clear ht hh
          go_wp2_with (go_at_call 91; refine (xtz t m _ HT2.out _ HT.out hal).mono ?_; rintro e w' ⟨rfl, rfl⟩)
          go_ret
          exact ⟨ret_int (by rw [HH.out]; simp; omega), rfl⟩
      · go_wp2
        go_ret
        refine ⟨ret_int ?_, rfl⟩
        rw [firstB_none]
        intro i hi
        rw [HF.out] at hi
        by_cases h : i < 64 * k
        · exact HR.out.2 i hi h
        · have := HB.out.len
          rw [List.getD_eq_getElem?_getD, List.getElem?_eq_none (by omega)]
          rfl

theorem xfirst_out {w : World} {b bw : Nat} {l : List Bool} (h : SetAt w b bw l) (from_ : Int) (hf : l.length ≤ from_) :
    Calls Tryd.prog 63 #[.pointer (some ⟨b, 0, none⟩), .int .i64 from_] w fun e w' => e = .returned (.int .i64 (-1)) ∧ w = w' := by
  obtain ⟨hne, hpos, hsm, ws, sp, cap, hB, hst, hwd⟩ := h
  have hc : w.cell? ⟨b, 0, none⟩ = some (.int .i64 (l.length : Nat)) := hst.cell 0
  have hn : (0 : Int) < (l.length : Nat) := by omega
  clear hst hwd hB
  go_enter Tryd.func63, Tryd.ntmps63
  go_wp2_with (go_at_call 54; refine (xnone_some _ _ _ hc hn).mono ?_; rintro e w' ⟨rfl, rfl⟩)
  go_ret
  exact ⟨rfl, rfl⟩

theorem xfirst {w : World} {b bw : Nat} {l : List Bool} (h : SetAt w b bw l) (hT : Tab w) (from_ : Int) :
    Calls Tryd.prog 63 #[.pointer (some ⟨b, 0, none⟩), .int .i64 from_] w fun e w' => e = .returned (.int .i64 (firstB l from_)) ∧ w = w' := by
  by_cases hf : from_ < l.length
  · exact xfirst_in h hT from_ hf
  · refine (xfirst_out h from_ (by omega)).mono ?_
    rintro e w' ⟨rfl, rfl⟩
    refine ⟨ret_int (firstB_none fun i hi => ?_).symm, rfl⟩
    rw [List.getD_eq_getElem?_getD, List.getElem?_eq_none (by omega)]
    rfl

end Go.Proofs.YtbebjpdbnpdpfaaDoor
