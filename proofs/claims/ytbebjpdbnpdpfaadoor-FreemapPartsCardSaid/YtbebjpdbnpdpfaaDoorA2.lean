/- The walks of package extent: a set of pages, its bits put in, taken out, asked for. -/
import Derived.Test.YtbebjpdbnpdpfaaDoorA1
import Derived.Test.YtbebjpdbnpdpfaaDoorM1
import Derived.Test.YtbebjpdbnpdpfaaDoorProg
import Derived.WalkSpells
set_option maxRecDepth 100000
set_option linter.unusedVariables false
namespace Go.Proofs.YtbebjpdbnpdpfaaDoor
open Go.RowKit

theorem info92 : (Tryd.prog.info? 92).map (fun i => (i.zero, i.size, i.bytes)) = some (some (.int .u64 0), 1, 8) := by kernel_rfl

abbrev u64s (ws : List Nat) : List Value := ws.map fun x => .int .u64 (x : Nat)

theorem u64s_get {ws : List Nat} (sp : List Value) {i : Nat} (h : i < ws.length) : (u64s ws ++ sp)[i]? = some (.int .u64 (ws[i] : Nat)) := by
  rw [List.getElem?_append_left (by simpa using h)]
  simp [h]

/-- The struct in block b, its words in block bw: the set of the pages l. -/
def SetAt (w : World) (b bw : Nat) (l : List Bool) : Prop :=
  b ≠ bw ∧ 0 < l.length ∧ l.length ≤ 2048 ∧ ∃ ws sp cap, Bits l ws ∧ Blk w b 81 [.int .i64 (l.length : Nat), .slice (some ⟨bw, 0, none⟩) ws.length cap] ∧ Blk w bw 92 (u64s ws ++ sp)

theorem SetAt.keep {S : Nat → Prop} {w w' : World} {b bw : Nat} {l : List Bool} (h : SetAt w b bw l) (hc : Chg S w w') (hb : ¬ S b) (hbw : ¬ S bw) : SetAt w' b bw l := by
  obtain ⟨h0, h1, h2, ws, sp, cap, h3, h4, h5⟩ := h
  exact ⟨h0, h1, h2, ws, sp, cap, h3, h4.keep hc hb, h5.keep hc hbw⟩
theorem SetAt.same {w w' : World} {b bw : Nat} {l : List Bool} (h : SetAt w b bw l) (hc : Same w w') : SetAt w' b bw l := h.keep hc id id
theorem SetAt.drewN {w : World} {b bw : Nat} {l : List Bool} (h : SetAt w b bw l) (m : Nat) : SetAt (w.drewN m) b bw l := h.same (Chg.drewN _ _ _)
theorem SetAt.lt {w : World} {b bw : Nat} {l : List Bool} (h : SetAt w b bw l) : b < w.heap.size ∧ bw < w.heap.size := by
  obtain ⟨h0, h1, h2, ws, sp, cap, h3, h4, h5⟩ := h
  exact ⟨h4.lt, h5.lt⟩

/-- Is page p in it? -/
def hasB (l : List Bool) (p : Int) : Bool := decide (0 ≤ p) && l.getD p.toNat false

theorem xnone_nil (w : World) : Calls Tryd.prog 54 #[.pointer none] w fun e w' => e = .returned (.bool true) ∧ w = w' := by
  go_enter Tryd.func54, Tryd.ntmps54
  go_wp2
  go_ret
  exact ⟨rfl, rfl⟩

theorem xnone_zero (a : Addr) (w : World) (hc : w.cell? a = some (.int .i64 0)) : Calls Tryd.prog 54 #[.pointer (some a)] w fun e w' => e = .returned (.bool true) ∧ w = w' := by
  go_enter Tryd.func54, Tryd.ntmps54
  go_wp2
  go_ret
  exact ⟨rfl, rfl⟩

theorem xnone_some (a : Addr) (n : Int) (w : World) (hc : w.cell? a = some (.int .i64 n)) (hn : 0 < n) : Calls Tryd.prog 54 #[.pointer (some a)] w fun e w' => e = .returned (.bool false) ∧ w = w' := by
  have hn0 : (n == 0) = false := by simp; omega
  go_enter Tryd.func54, Tryd.ntmps54
  go_wp2
  go_ret
  exact ⟨rfl, rfl⟩

theorem pow64 (p : Nat) : (2 : Int) ^ (p % 64) = ((2 ^ (p % 64) : Nat) : Int) ∧ 2 ^ (p % 64) < 18446744073709551616 := by
  refine ⟨by simp, ?_⟩
  have : 2 ^ (p % 64) < 2 ^ 64 := Nat.pow_lt_pow_right (by decide) (Nat.mod_lt _ (by decide))
  exact this

theorem xbit (p : Int) (hp : 0 ≤ p) (w : World) : Calls Tryd.prog 58 #[.int .i64 p] w fun e w' => e = .returned (.int .u64 (2 ^ (p.toNat % 64) : Nat)) ∧ w = w' := by
  go_enter Tryd.func58, Tryd.ntmps58
  go_wp2
  go_ret
  have h1 : (p % 64).toNat = p.toNat % 64 := by omega
  refine ⟨?_, rfl⟩
  refine ret_int ?_
  have := pow64 p.toNat
  rw [h1, this.1, IntKind.wrap]
  simp only [IntKind.bits, IntKind.signed, Bool.false_and]
  generalize 2 ^ (p.toNat % 64) = z at *
  simp
  omega

theorem xmay_yes (b : Nat) (n p : Int) (w : World) (hc : w.cell? ⟨b, 0, none⟩ = some (.int .i64 n)) (hn : 0 < n) (h0 : 0 ≤ p) (h1 : p < n) : Calls Tryd.prog 56 #[.pointer (some ⟨b, 0, none⟩), .int .i64 p] w fun e w' => e = .returned (.int .i64 0) ∧ w = w' := by
  go_enter Tryd.func56, Tryd.ntmps56
  go_wp2_with (go_at_call 54; refine (xnone_some _ _ _ hc hn).mono ?_; rintro e w' ⟨rfl, rfl⟩)
  go_ret
  exact ⟨rfl, rfl⟩

theorem xmay_no (b : Nat) (n p : Int) (w : World) (hc : w.cell? ⟨b, 0, none⟩ = some (.int .i64 n)) (hn : 0 < n) (h0 : p < 0 ∨ n ≤ p) : Calls Tryd.prog 56 #[.pointer (some ⟨b, 0, none⟩), .int .i64 p] w fun e w' => e = .returned (.int .i64 1) ∧ w = w' := by
  by_cases hp : p < 0
  all_goals
  go_enter Tryd.func56, Tryd.ntmps56
  go_wp2_with (go_at_call 54; refine (xnone_some _ _ _ hc hn).mono ?_; rintro e w' ⟨rfl, rfl⟩)
  go_ret
  exact ⟨rfl, rfl⟩

theorem xmay_nil (p : Int) (w : World) : Calls Tryd.prog 56 #[.pointer none, .int .i64 p] w fun e w' => e = .returned (.int .i64 2) ∧ w = w' := by
  go_enter Tryd.func56, Tryd.ntmps56
  go_wp2_with (go_at_call 54; refine (xnone_nil _).mono ?_; rintro e w' ⟨rfl, rfl⟩)
  go_ret
  exact ⟨rfl, rfl⟩

theorem bit_test (x p : Nat) (hx : x < 2 ^ 64) : (bits BinOp.and IntKind.u64 (x : Int) (2 ^ (p % 64)) != 0) = x.testBit (p % 64) := by
  rw [(pow64 p).1, u64_and_nat x _ hx (pow64 p).2, nat_bit, Nat.testBit_eq_decide_div_mod_eq]
  have h2 : 0 < 2 ^ (p % 64) := Nat.pow_pos (by decide)
  have h3 : x / 2 ^ (p % 64) % 2 = 0 ∨ x / 2 ^ (p % 64) % 2 = 1 := by omega
  rcases h3 with h | h
  · rw [h]; simp
  · rw [h, Nat.one_mul]
    generalize 2 ^ (p % 64) = z at *
    simp
    omega

/-- Has, where there is such a page. -/
theorem xhas_in {w : World} {b bw : Nat} {l : List Bool} (h : SetAt w b bw l) (p : Nat) (hp : p < l.length) :
    Calls Tryd.prog 57 #[.pointer (some ⟨b, 0, none⟩), .int .i64 p] w fun e w' => e = .returned (.bool l[p]) ∧ ∃ m, w' = w.drewN m := by
  obtain ⟨hne, hpos, hsm, ws, sp, cap, hB, hst, hwd⟩ := h
  have hl := div_lt hB hp
  have hget := hB.get hp hl
  have hx := hB.lt _ hl
  have hc : w.cell? ⟨b, 0, none⟩ = some (.int .i64 (l.length : Nat)) := hst.cell 0
  have hs : w.cell? ⟨b, 1, none⟩ = some (.slice (some ⟨bw, 0, none⟩) ws.length cap) := hst.cell 1
  have hx' : w.cell? ⟨bw, p / 64, none⟩ = some (.int .u64 (ws[p / 64] : Nat)) := (hwd.cell _).trans (u64s_get _ hl)
  generalize hxx : ws[p / 64] = x at *
  have HX := Lib.hid hxx
  have HG := Lib.hid hget
  clear hxx hst hwd hB hget
  have hn : (0 : Int) < (l.length : Nat) := by omega
  have h1 : (p : Int) < (l.length : Nat) := by omega
  have hl' : (p : Int) / 64 < ws.length := by omega
  have h0 : (0 : Int) ≤ p := by omega
  have h0' : (0 : Int) ≤ (p : Int) / 64 := by omega
  have hi : ((p : Int) / 64).toNat = p / 64 := by omega
  have hwr : IntKind.i64.wrap ((p : Int) / 64) = (p : Int) / 64 := IntWalk.i64_in _ (by omega)
  go_enter Tryd.func57, Tryd.ntmps57
  go_wp2
  go_quiet (first | (go_at_call 56; exact quietS (xmay_yes b _ p _ hc hn h0 h1)) | (go_at_call 58; exact quietS (xbit p h0 _)))
  go_wp2
  go_ret
  exact ⟨ret_bool ((bit_test x p hx).trans HG.out), _, rfl⟩

theorem xhas_out {w : World} {b bw : Nat} {l : List Bool} (h : SetAt w b bw l) (p : Int) (hp : p < 0 ∨ (l.length : Int) ≤ p) :
    Calls Tryd.prog 57 #[.pointer (some ⟨b, 0, none⟩), .int .i64 p] w fun e w' => e = .returned (.bool false) ∧ ∃ m, w' = w.drewN m := by
  obtain ⟨hne, hpos, hsm, ws, sp, cap, hB, hst, hwd⟩ := h
  have hc : w.cell? ⟨b, 0, none⟩ = some (.int .i64 (l.length : Nat)) := hst.cell 0
  have hn : (0 : Int) < (l.length : Nat) := by omega
  clear hst hwd
  go_enter Tryd.func57, Tryd.ntmps57
  go_wp2
  go_quiet (first | (go_at_call 56; exact quietS (xmay_no b _ p _ hc hn hp)))
  go_wp2
  go_ret
  exact ⟨rfl, _, rfl⟩

theorem xhas {w : World} {b bw : Nat} {l : List Bool} (h : SetAt w b bw l) (p : Int) :
    Calls Tryd.prog 57 #[.pointer (some ⟨b, 0, none⟩), .int .i64 p] w fun e w' => e = .returned (.bool (hasB l p)) ∧ ∃ m, w' = w.drewN m := by
  by_cases h0 : 0 ≤ p
  · obtain ⟨n, rfl⟩ := Int.eq_ofNat_of_zero_le h0
    by_cases h1 : n < l.length
    · refine (xhas_in h n h1).mono ?_
      rintro e w' ⟨rfl, hw⟩
      exact ⟨ret_bool (by simp [hasB, h1]), hw⟩
    · refine (xhas_out h n (.inr (by omega))).mono ?_
      rintro e w' ⟨rfl, hw⟩
      exact ⟨ret_bool (by simp only [hasB, Int.toNat_natCast]; rw [List.getD_eq_getElem?_getD, List.getElem?_eq_none (by omega)]; simp), hw⟩
  · refine (xhas_out h p (.inl (by omega))).mono ?_
    rintro e w' ⟨rfl, hw⟩
    exact ⟨ret_bool (by simp [hasB, h0]), hw⟩

theorem xhas_nil (p : Int) (w : World) : Calls Tryd.prog 57 #[.pointer none, .int .i64 p] w fun e w' => e = .returned (.bool false) ∧ ∃ m, w' = w.drewN m := by
  go_enter Tryd.func57, Tryd.ntmps57
  go_wp2
  go_quiet (first | (go_at_call 56; exact quietS (xmay_nil p _)))
  go_wp2
  go_ret
  exact ⟨rfl, _, rfl⟩

theorem xsize {w : World} {b bw : Nat} {l : List Bool} (h : SetAt w b bw l) :
    Calls Tryd.prog 61 #[.pointer (some ⟨b, 0, none⟩)] w fun e w' => e = .returned (.int .i64 (l.length : Nat)) ∧ w = w' := by
  obtain ⟨hne, hpos, hsm, ws, sp, cap, hB, hst, hwd⟩ := h
  have hc : w.cell? ⟨b, 0, none⟩ = some (.int .i64 (l.length : Nat)) := hst.cell 0
  have hn : (0 : Int) < (l.length : Nat) := by omega
  clear hst hwd
  go_enter Tryd.func61, Tryd.ntmps61
  go_wp2_with (go_at_call 54; refine (xnone_some _ _ _ hc hn).mono ?_; rintro e w' ⟨rfl, rfl⟩)
  go_ret
  exact ⟨rfl, rfl⟩

/-- Add, Drop where there is no such page. -/
theorem xadd_out {w : World} {b bw : Nat} {l : List Bool} (h : SetAt w b bw l) (p : Int) (hp : p < 0 ∨ (l.length : Int) ≤ p) :
    Calls Tryd.prog 14 #[.pointer (some ⟨b, 0, none⟩), .int .i64 p] w fun e w' => e = .returned (.int .i64 1) ∧ w = w' := by
  obtain ⟨hne, hpos, hsm, ws, sp, cap, hB, hst, hwd⟩ := h
  have hc : w.cell? ⟨b, 0, none⟩ = some (.int .i64 (l.length : Nat)) := hst.cell 0
  have hn : (0 : Int) < (l.length : Nat) := by omega
  clear hst hwd
  go_enter Tryd.func14, Tryd.ntmps14
  go_wp2_with (go_at_call 56; refine (xmay_no b _ p _ hc hn hp).mono ?_; rintro e w' ⟨rfl, rfl⟩)
  go_ret
  exact ⟨rfl, rfl⟩

theorem xdrop_out {w : World} {b bw : Nat} {l : List Bool} (h : SetAt w b bw l) (p : Int) (hp : p < 0 ∨ (l.length : Int) ≤ p) :
    Calls Tryd.prog 15 #[.pointer (some ⟨b, 0, none⟩), .int .i64 p] w fun e w' => e = .returned (.int .i64 1) ∧ w = w' := by
  obtain ⟨hne, hpos, hsm, ws, sp, cap, hB, hst, hwd⟩ := h
  have hc : w.cell? ⟨b, 0, none⟩ = some (.int .i64 (l.length : Nat)) := hst.cell 0
  have hn : (0 : Int) < (l.length : Nat) := by omega
  clear hst hwd
  go_enter Tryd.func15, Tryd.ntmps15
  go_wp2_with (go_at_call 56; refine (xmay_no b _ p _ hc hn hp).mono ?_; rintro e w' ⟨rfl, rfl⟩)
  go_ret
  exact ⟨rfl, rfl⟩

theorem xadd_twice {w : World} {b bw : Nat} {l : List Bool} (h : SetAt w b bw l) (p : Nat) (hp : p < l.length) (ht : l[p] = true) :
    Calls Tryd.prog 14 #[.pointer (some ⟨b, 0, none⟩), .int .i64 p] w fun e w' => e = .returned (.int .i64 70) ∧ ∃ m, w' = w.drewN m := by
  have hhas := fun w (h : SetAt w b bw l) => xhas_in h p hp
  rw [ht] at hhas
  have HH := Lib.hid hhas
  have H := Lib.hid h
  obtain ⟨hne, hpos, hsm, ws, sp, cap, hB, hst, hwd⟩ := h
  have hc : w.cell? ⟨b, 0, none⟩ = some (.int .i64 (l.length : Nat)) := hst.cell 0
  have hn : (0 : Int) < (l.length : Nat) := by omega
  have h1 : (p : Int) < (l.length : Nat) := by omega
  clear hst hwd hB hhas ht
  go_enter Tryd.func14, Tryd.ntmps14
  go_wp2_with (first | (go_at_call 56; refine (xmay_yes b _ p _ hc hn (by omega) h1).mono ?_; rintro e w' ⟨rfl, rfl⟩) | (go_at_call 57; refine (HH.out _ H.out).mono ?_; rintro e w' ⟨rfl, m, rfl⟩))
  go_ret
  exact ⟨rfl, _, rfl⟩

theorem xdrop_none {w : World} {b bw : Nat} {l : List Bool} (h : SetAt w b bw l) (p : Nat) (hp : p < l.length) (ht : l[p] = false) :
    Calls Tryd.prog 15 #[.pointer (some ⟨b, 0, none⟩), .int .i64 p] w fun e w' => e = .returned (.int .i64 4) ∧ ∃ m, w' = w.drewN m := by
  have hhas := fun w (h : SetAt w b bw l) => xhas_in h p hp
  rw [ht] at hhas
  have HH := Lib.hid hhas
  have H := Lib.hid h
  obtain ⟨hne, hpos, hsm, ws, sp, cap, hB, hst, hwd⟩ := h
  have hc : w.cell? ⟨b, 0, none⟩ = some (.int .i64 (l.length : Nat)) := hst.cell 0
  have hn : (0 : Int) < (l.length : Nat) := by omega
  have h1 : (p : Int) < (l.length : Nat) := by omega
  clear hst hwd hB hhas ht
  go_enter Tryd.func15, Tryd.ntmps15
  go_wp2_with (first | (go_at_call 56; refine (xmay_yes b _ p _ hc hn (by omega) h1).mono ?_; rintro e w' ⟨rfl, rfl⟩) | (go_at_call 57; refine (HH.out _ H.out).mono ?_; rintro e w' ⟨rfl, m, rfl⟩))
  go_ret
  exact ⟨rfl, _, rfl⟩

/-- The word of a page, stored anew. -/
theorem SetAt.store {w : World} {b bw : Nat} {l : List Bool} {ws : List Nat} {sp : List Value} {cap : Nat} {p : Nat} (hne : b ≠ bw) (hpos : 0 < l.length) (hsm : l.length ≤ 2048) (v : Bool) (y : Nat)
    (hB : Bits (l.set p v) (ws.set (p / 64) y)) (hl : p / 64 < ws.length) (hst : Blk w b 81 [.int .i64 (l.length : Nat), .slice (some ⟨bw, 0, none⟩) ws.length cap]) (hwd : Blk w bw 92 (u64s ws ++ sp)) (m : Nat) :
    SetAt ((w.drewN m).setCell ⟨bw, p / 64, none⟩ (.int .u64 (y : Nat))) b bw (l.set p v) ∧ Chg (fun k => k = bw) w ((w.drewN m).setCell ⟨bw, p / 64, none⟩ (.int .u64 (y : Nat))) := by
  have hst' : Blk (w.drewN m) b 81 [.int .i64 (l.length : Nat), .slice (some ⟨bw, 0, none⟩) ws.length cap] := hst
  have hwd' : Blk (w.drewN m) bw 92 (u64s ws ++ sp) := hwd
  refine ⟨⟨hne, by simpa using hpos, by simpa using hsm, ws.set (p / 64) y, sp, cap, hB, ?_, ?_⟩, (Chg.drewN _ w m).trans (Chg.setCell (S := fun k => k = bw) _ rfl _)⟩
  · have := hst'.set_ne (p := ⟨bw, p / 64, none⟩) (fun e => hne e.symm) (.int .u64 (y : Nat))
    simpa using this
  · have := hwd'.set (p / 64) (.int .u64 (y : Nat))
    rw [List.set_append_left _ _ (by simpa using hl), ← List.map_set] at this
    exact this

theorem or_nat (x p : Nat) (hx : x < 2 ^ 64) : bits BinOp.or IntKind.u64 (x : Int) (2 ^ (p % 64)) = ((x ||| 2 ^ (p % 64) : Nat) : Int) := by
  rw [(pow64 p).1, u64_or_nat x _ hx (pow64 p).2]
theorem andNot_nat (x p : Nat) (hx : x < 2 ^ 64) : bits BinOp.andNot IntKind.u64 (x : Int) (2 ^ (p % 64)) = ((x &&& (18446744073709551615 - 2 ^ (p % 64)) : Nat) : Int) := by
  rw [(pow64 p).1, u64_andNot_nat x _ hx (pow64 p).2]

theorem xadd_in {w : World} {b bw : Nat} {l : List Bool} (h : SetAt w b bw l) (p : Nat) (hp : p < l.length) (ht : l[p] = false) :
    Calls Tryd.prog 14 #[.pointer (some ⟨b, 0, none⟩), .int .i64 p] w fun e w' => e = .returned (.int .i64 0) ∧ SetAt w' b bw (l.set p true) ∧ Chg (fun k => k = bw) w w' := by
  have hhas := fun w (h : SetAt w b bw l) => xhas_in h p hp
  rw [ht] at hhas
  have HH := Lib.hid hhas
  have H := Lib.hid h
  obtain ⟨hne, hpos, hsm, ws, sp, cap, hB, hst, hwd⟩ := h
  have hl := div_lt hB hp
  have hx := hB.lt _ hl
  have hfin := fun m => SetAt.store hne hpos hsm true _ (hB.or hp hl) hl hst hwd m
  have hc : w.cell? ⟨b, 0, none⟩ = some (.int .i64 (l.length : Nat)) := hst.cell 0
  have hs : w.cell? ⟨b, 1, none⟩ = some (.slice (some ⟨bw, 0, none⟩) ws.length cap) := hst.cell 1
  have hx' : w.cell? ⟨bw, p / 64, none⟩ = some (.int .u64 (ws[p / 64] : Nat)) := (hwd.cell _).trans (u64s_get _ hl)
  have hf : w.frozen? ⟨bw, p / 64, none⟩ = false := hwd.frozen _
  rw [← or_nat _ _ hx] at hfin
  have HF := Lib.hid hfin
  generalize ws[p / 64] = x at *
  clear hst hwd hB hhas ht hfin
  have hn : (0 : Int) < (l.length : Nat) := by omega
  have h1 : (p : Int) < (l.length : Nat) := by omega
  have hl' : (p : Int) / 64 < ws.length := by omega
  have h0 : (0 : Int) ≤ p := by omega
  have h0' : (0 : Int) ≤ (p : Int) / 64 := by omega
  have hi : ((p : Int) / 64).toNat = p / 64 := by omega
  have hwr : IntKind.i64.wrap ((p : Int) / 64) = (p : Int) / 64 := IntWalk.i64_in _ (by omega)
  go_enter Tryd.func14, Tryd.ntmps14
  go_wp2_with (first | (go_at_call 56; refine (xmay_yes b _ p _ hc hn h0 h1).mono ?_; rintro e w' ⟨rfl, rfl⟩) | (go_at_call 57; refine (HH.out _ H.out).mono ?_; rintro e w' ⟨rfl, m, rfl⟩))
  refine region_tail 12 (by kernel_rfl) (by kernel_rfl) ?_
  simp only [List.take_succ_cons, List.take_zero, List.drop_succ_cons, List.drop_zero, World.drew_drewN]
  repeat still_step
  still_call ((xbit p h0 _).mono fun e w' ⟨h1, h2⟩ => ⟨h1, h2.symm⟩)
  repeat still_step
  refine wpStill_nil ?_
  go_wp2
  go_ret
  exact ⟨rfl, HF.out _⟩

theorem xdrop_in {w : World} {b bw : Nat} {l : List Bool} (h : SetAt w b bw l) (p : Nat) (hp : p < l.length) (ht : l[p] = true) :
    Calls Tryd.prog 15 #[.pointer (some ⟨b, 0, none⟩), .int .i64 p] w fun e w' => e = .returned (.int .i64 0) ∧ SetAt w' b bw (l.set p false) ∧ Chg (fun k => k = bw) w w' := by
  have hhas := fun w (h : SetAt w b bw l) => xhas_in h p hp
  rw [ht] at hhas
  have HH := Lib.hid hhas
  have H := Lib.hid h
  obtain ⟨hne, hpos, hsm, ws, sp, cap, hB, hst, hwd⟩ := h
  have hl := div_lt hB hp
  have hx := hB.lt _ hl
  have hfin := fun m => SetAt.store hne hpos hsm false _ (hB.andNot hp hl) hl hst hwd m
  have hc : w.cell? ⟨b, 0, none⟩ = some (.int .i64 (l.length : Nat)) := hst.cell 0
  have hs : w.cell? ⟨b, 1, none⟩ = some (.slice (some ⟨bw, 0, none⟩) ws.length cap) := hst.cell 1
  have hx' : w.cell? ⟨bw, p / 64, none⟩ = some (.int .u64 (ws[p / 64] : Nat)) := (hwd.cell _).trans (u64s_get _ hl)
  have hf : w.frozen? ⟨bw, p / 64, none⟩ = false := hwd.frozen _
  rw [← andNot_nat _ _ hx] at hfin
  have HF := Lib.hid hfin
  generalize ws[p / 64] = x at *
  clear hst hwd hB hhas ht hfin
  have hn : (0 : Int) < (l.length : Nat) := by omega
  have h1 : (p : Int) < (l.length : Nat) := by omega
  have hl' : (p : Int) / 64 < ws.length := by omega
  have h0 : (0 : Int) ≤ p := by omega
  have h0' : (0 : Int) ≤ (p : Int) / 64 := by omega
  have hi : ((p : Int) / 64).toNat = p / 64 := by omega
  have hwr : IntKind.i64.wrap ((p : Int) / 64) = (p : Int) / 64 := IntWalk.i64_in _ (by omega)
  go_enter Tryd.func15, Tryd.ntmps15
  go_wp2_with (first | (go_at_call 56; refine (xmay_yes b _ p _ hc hn h0 h1).mono ?_; rintro e w' ⟨rfl, rfl⟩) | (go_at_call 57; refine (HH.out _ H.out).mono ?_; rintro e w' ⟨rfl, m, rfl⟩))
  refine region_tail 12 (by kernel_rfl) (by kernel_rfl) ?_
  simp only [List.take_succ_cons, List.take_zero, List.drop_succ_cons, List.drop_zero, World.drew_drewN]
  repeat still_step
  still_call ((xbit p h0 _).mono fun e w' ⟨h1, h2⟩ => ⟨h1, h2.symm⟩)
  repeat still_step
  refine wpStill_nil ?_
  go_wp2
  go_ret
  exact ⟨rfl, HF.out _⟩

end Go.Proofs.YtbebjpdbnpdpfaaDoor
