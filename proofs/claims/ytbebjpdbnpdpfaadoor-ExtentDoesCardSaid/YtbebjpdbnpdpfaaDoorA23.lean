/- The walk of the law of package extent: whatever is added and dropped. -/
import Derived.Test.YtbebjpdbnpdpfaaDoorA21
import Derived.Test.YtbebjpdbnpdpfaaDoorA22
import Derived.Deep.RegionHeld3
import Derived.Deep.Cut
import Derived.Deep.CutRange
set_option maxRecDepth 100000
set_option linter.unusedVariables false
set_option linter.unusedSimpArgs false
namespace Go.Proofs.YtbebjpdbnpdpfaaDoor
open Go.RowKit

/-- The acts of a script lie where its slice says. -/
def OpsAt (w : World) (a : Option Addr) (n : Nat) : Prop := ∀ i, i < n → ∃ (b o : Nat) (p : Int) (d c : Bool), a = some ⟨b, o, none⟩ ∧
  w.cell? ⟨b, o + i * 3, none⟩ = some (.int .i64 p) ∧ w.cell? ⟨b, o + i * 3 + 1, none⟩ = some (.bool d) ∧ w.cell? ⟨b, o + i * 3 + 2, none⟩ = some (.bool c)

set_option maxHeartbeats 40000000 in
theorem xdoes {w : World} (hT : Tab w) (size : Int) (a : Option Addr) (n cap : Nat) (hO : OpsAt w a n) (hn : n ≤ cap) (hcap : cap ≤ maxLen) (nn : Int) :
    Calls Tryd.prog 3 #[.int .i64 size, .slice a n cap, .int .i64 nn] w fun e w' => e = .returned (.bool true) ∧ Same w w' := by
  have HT := Lib.hid hT
  have HO := Lib.hid hO
  clear hT hO
  by_cases hs : size < 1 ∨ 2048 < size
  · go_enter Tryd.func3, Tryd.ntmps3
    go_wp2_with fail
    go_at_call 10; refine (xnew_bad _ _ hs).mono ?_; rintro e w1 ⟨rfl, rfl⟩
    go_wp2_with fail
    go_at_call 11; refine (rnew_bad _ _ hs).mono ?_; rintro e w1 ⟨rfl, rfl⟩
    go_wp2_with fail
    go_at_call 12; refine (xlive HT.out).mono ?_; rintro e w1 ⟨rfl, h1⟩
    go_wp2_with fail
    go_ret
    exact ⟨rfl, h1⟩
  · have h1 : 1 ≤ size := by omega
    have h2 : size ≤ 2048 := by omega
    clear hs
    go_enter Tryd.func3, Tryd.ntmps3
    go_wp2_with fail
    go_at_call 10; refine (xnew _ _ h1 h2).mono ?_; rintro e w1 ⟨b, bw, rfl, hN1⟩
    have HN1 := Lib.hid hN1
    clear hN1
    go_wp2_with fail
    go_at_call 11; refine (rnew _ _ h1 h2).mono ?_; rintro e w2 ⟨r, rw, rfl, hN2⟩
    have HN2 := Lib.hid hN2
    clear hN2
    go_wp2_with fail
    go_at_call 12; refine (xlive (HT.out.same (HN1.out.2.1.trans HN2.out.2.1))).mono ?_; rintro e w3 ⟨rfl, h3⟩
    have H3 := Lib.hid h3
    clear h3
    by_cases h300 : 300 < size
    · go_wp2_with fail
      go_ret
      exact ⟨rfl, HN1.out.2.1.trans (HN2.out.2.1.trans H3.out)⟩
    · go_upto_region 7 with fail
      go_cut [48, 49, 50] from 44 to 50 (fun s m i wx => ∃ N : Nat, N ≤ n ∧ N ≤ 60 ∧ s = .slice a N cap ∧ m = .int .i64 N ∧ i = .int .i64 0 ∧ wx = w3)
      case first =>
        by_cases hmin : n ≤ 60
        · have hmin' : (n : Int) ≤ 60 := by omega
          have hmin'' : ¬ (60 : Int) < n := by omega
          go_wp2_with fail
          go_meet
          exact ⟨n, Nat.le_refl _, hmin, rfl, rfl, rfl, rfl⟩
        · have hmin' : (60 : Int) < n := by omega
          go_wp2_with fail
          go_meet
          exact ⟨60, by omega, Nat.le_refl _, rfl, rfl, rfl, rfl⟩
      case rest =>
        obtain ⟨N, hNn, hN60, rfl, rfl, rfl, rfl⟩ := hcut
        go_wp2_with fail
        go_loopw [7, 50] (fun s i wr => ∃ (k b1 bw1 : Nat) (l : List Bool), k ≤ N ∧ i = .int .i64 k ∧ s = .pointer (some ⟨b1, 0, none⟩) ∧ Hid (SetAt wr b1 bw1 l ∧ RefAt wr r rw l ∧ Same w wr ∧ w.heap.size ≤ b1 ∧ w.heap.size ≤ bw1)) (fun _ i _ => N - (intOf i).toNat)
        case atStart =>
          refine ⟨0, b, bw, _, Nat.zero_le _, rfl, rfl, HN1.out.1.same (HN2.out.2.1.trans H3.out), HN2.out.1.same H3.out, HN1.out.2.1.trans (HN2.out.2.1.trans H3.out), HN1.out.2.2⟩
        case round =>
          obtain ⟨k, b1, bw1, l, hk, rfl, rfl, HR⟩ := hrel
          by_cases hlt : k < N
          · obtain ⟨ab, ao, p, d, c, rfl, hq0, hq1, hq2⟩ := HO.out k (by omega)
            have hsw := HR.out.2.2.1
            have hcq : ∀ o v, w.cell? ⟨ab, o, none⟩ = some v → wr.cell? ⟨ab, o, none⟩ = some v := fun o v h => (World.cell?_of_block (hsw.keep ab (World.block_lt_of_cell? w _ h) id)).trans h
            have hq0' := hcq _ _ hq0
            have hq1' := hcq _ _ hq1
            have hq2' := hcq _ _ hq2
            have hrr : w.heap.size ≤ r ∧ w.heap.size ≤ rw := by
              have := HN1.out.2.1.size
              have := HN2.out.2.2
              omega
            have hB0 : Both w b1 bw1 r rw l l wr.heap.size p d c (wr.alloc (.cells #[.int .i64 p, .bool d, .bool c] 32)) :=
              ⟨HR.out.1.same (Chg.alloc _ _ _), HR.out.2.1.same (Chg.alloc _ _ _), HT.out, Blk.newA wr 32 #[.int .i64 p, .bool d, .bool c], hsw.trans (Chg.alloc _ _ _), by have := HR.out.2.2.2; have := hsw.size; omega⟩
            have HB0 := Lib.hid hB0
            clear hq0 hq1 hq2 hsw hcq hrr hB0
            have hi : (k : Int) < N := by omega
            have hk0 : (0 : Int) ≤ k := by omega
            cases c with
            | true =>
              go_wp2_with fail
              go_at_call 13; refine (b_clone HB0.out).mono ?_; rintro e w4 ⟨b2, bw2, rfl, hN, hB⟩
              have HN4 := Lib.hid hN
              have HB4 := Lib.hid hB
              have ⟨q40, q41, q42⟩ := hB.cells
              clear hN hB
              go_wp2_with fail
              go_at_call 14; refine (b_add HB4.out p).mono ?_; rintro e w5 ⟨rfl, hB, hC⟩
              have HB5 := Lib.hid hB
              have HC5 := Lib.hid hC
              have ⟨q50, q51, q52⟩ := hB.cells
              clear hC hB
              go_wp2_with fail
              go_at_call 15; refine (b_drop HB5.out 0).mono ?_; rintro e w6 ⟨rfl, hB, hC⟩
              have hon := Both.on HB4.out HN4.out HB0.out.same.size HB0.out.set.lt.2 hB (HC5.out.trans hC)
              have HB6 := Lib.hid hon
              have ⟨q60, q61, q62⟩ := hon.cells
              clear hC hB hon q40 q41 q42 q50 q51 q52
              go_wp2_with fail
              go_at_call 18; refine (xsame HB6.out.set HB6.out.ref HB6.out.tab _).mono ?_; rintro e w7 ⟨rfl, h7⟩
              have HB7 := Lib.hid (HB6.out.to h7)
              clear h7 q60 q61 q62
              go_wp2_with fail
              go_at_call 18; refine (xsame HB7.out.set HB7.out.ref HB7.out.tab _).mono ?_; rintro e w8 ⟨rfl, h8⟩
              have HB8 := Lib.hid (HB7.out.to h8)
              clear h8
              go_wp2_with fail
              go_roundw
              case rel => exact ⟨k + 1, b2, bw2, l, by omega, by go_num, rfl, HB8.out.set, HB8.out.ref, HB8.out.same, HB8.out.nb.1, HB8.out.nb.2.1⟩
              case measure => simp [intOf]; omega
            | false =>
              cases d with
              | true =>
                have hBd := HB0.out.to (Chg.drew _ _)
                go_wp2_with fail
                refine wp_region_noPanic ?_
                refine wp_region_held_drew (S := fun wx => wx.cell? ⟨wr.heap.size, 0, none⟩ = some (.int .i64 p) ∧ wx.cell? ⟨wr.heap.size, 1, none⟩ = some (.bool true)) (by kernel_rfl) ⟨hBd.cells.1, hBd.cells.2.1⟩ (fun hHeld => ?_)
                refine takeH 0 rfl (v := ?_) (by kernel_rfl) (by kernel_rfl) (by kernel_rfl) (fun _ _ _ h => h) (by rfl) ?_ hHeld ?_
                rotate_left
                · (intro wy hSw; (try dsimp only at hSw); go_simp; try with_reducible rfl)
                try simp only [Act.put, List.setIfInBounds_toArray, List.set_cons_zero, List.set_cons_succ]
                refine takeH 1 rfl (v := ?_) (by kernel_rfl) (by kernel_rfl) (by kernel_rfl) (fun _ _ _ h => h) (by rfl) ?_ hHeld ?_
                rotate_left
                · (intro wy hSw; (try dsimp only at hSw); go_simp; try with_reducible rfl)
                try simp only [Act.put, List.setIfInBounds_toArray, List.set_cons_zero, List.set_cons_succ]
                refine takeH 2 rfl (v := ?_) (by kernel_rfl) (by kernel_rfl) (by kernel_rfl) (fun _ _ _ h => h) (by rfl) ?_ hHeld ?_
                rotate_left
                · (intro wy hSw; (try dsimp only at hSw); go_simp; try with_reducible rfl)
                try simp only [Act.put, List.setIfInBounds_toArray, List.set_cons_zero, List.set_cons_succ]
                refine takeH 3 rfl (v := ?_) (by kernel_rfl) (by kernel_rfl) (by kernel_rfl) (fun _ _ _ h => h) (by rfl) ?_ hHeld ?_
                rotate_left
                · (intro wy hSw; (try dsimp only at hSw); go_simp; try with_reducible rfl)
                try simp only [Act.put, List.setIfInBounds_toArray, List.set_cons_zero, List.set_cons_succ]
                refine takeH 4 rfl (v := ?_) (by kernel_rfl) (by kernel_rfl) (by kernel_rfl) (fun _ _ _ h => h) (by rfl) ?_ hHeld ?_
                rotate_left
                · (intro wy hSw; (try dsimp only at hSw); go_simp; try with_reducible rfl)
                try simp only [Act.put, List.setIfInBounds_toArray, List.set_cons_zero, List.set_cons_succ]
                refine takeH 5 rfl (v := ?_) (by kernel_rfl) (by kernel_rfl) (by kernel_rfl) (fun _ _ _ h => h) (by rfl) ?_ hHeld ?_
                rotate_left
                · (intro wy hSw; (try dsimp only at hSw); go_simp; try with_reducible rfl)
                try simp only [Act.put, List.setIfInBounds_toArray, List.set_cons_zero, List.set_cons_succ]
                refine takeH 7 rfl (v := ?_) (by kernel_rfl) (by kernel_rfl) (by kernel_rfl) (fun _ _ _ h => h) (by rfl) ?_ hHeld ?_
                rotate_left
                · (intro wy hSw; (try dsimp only at hSw); go_simp; try with_reducible rfl)
                try simp only [Act.put, List.setIfInBounds_toArray, List.set_cons_zero, List.set_cons_succ]
                refine takeH 8 rfl (v := ?_) (by kernel_rfl) (by kernel_rfl) (by kernel_rfl) (fun _ _ _ h => h) (by rfl) ?_ hHeld ?_
                rotate_left
                · (intro wy hSw; (try dsimp only at hSw); go_simp; try with_reducible rfl)
                try simp only [Act.put, List.setIfInBounds_toArray, List.set_cons_zero, List.set_cons_succ]
                refine takeH 9 rfl (v := ?_) (by kernel_rfl) (by kernel_rfl) (by kernel_rfl) (fun _ _ _ h => h) (by rfl) ?_ hHeld ?_
                rotate_left
                · (intro wy hSw; (try dsimp only at hSw); go_simp; try with_reducible rfl)
                try simp only [Act.put, List.setIfInBounds_toArray, List.set_cons_zero, List.set_cons_succ]
                refine nextH 6 rfl (by kernel_rfl) (by rfl) (fun K hK => ?_)
                go_simp
                refine (b_drop hBd _).mono ?_; rintro e wx ⟨rfl, hx, -⟩
                try dsimp only
                refine hK.out _ _ ⟨hx.cells.1, hx.cells.2.1⟩ (fun hHeld => ?_)
                clear hK K
                try simp only [Act.put, List.setIfInBounds_toArray, List.set_cons_zero, List.set_cons_succ]
                have hx1 := hx
                refine nextH 10 rfl (by kernel_rfl) (by rfl) (fun K hK => ?_)
                go_simp
                refine (b_rdrop hx1 _).mono ?_; rintro e wx ⟨rfl, hx⟩
                try dsimp only
                refine hK.out _ _ ⟨hx.cells.1, hx.cells.2.1⟩ (fun hHeld => ?_)
                clear hK K
                try simp only [Act.put, List.setIfInBounds_toArray, List.set_cons_zero, List.set_cons_succ]
                refine takeH 11 rfl (v := ?_) (by kernel_rfl) (by kernel_rfl) (by kernel_rfl) (fun _ _ _ h => h) (by rfl) ?_ hHeld ?_
                rotate_left
                · (intro wy hSw; (try dsimp only at hSw); go_simp; try with_reducible rfl)
                try simp only [Act.put, List.setIfInBounds_toArray, List.set_cons_zero, List.set_cons_succ]
                refine takeH 12 rfl (v := ?_) (by kernel_rfl) (by kernel_rfl) (by kernel_rfl) (fun _ _ _ h => h) (by rfl) ?_ hHeld ?_
                rotate_left
                · (intro wy hSw; (try dsimp only at hSw); go_simp; try with_reducible rfl)
                try simp only [Act.put, List.setIfInBounds_toArray, List.set_cons_zero, List.set_cons_succ]
                refine takeH 13 rfl (v := ?_) (by kernel_rfl) (by kernel_rfl) (by kernel_rfl) (fun _ _ _ h => h) (by rfl) ?_ hHeld ?_
                rotate_left
                · (intro wy hSw; (try dsimp only at hSw); go_simp; try with_reducible rfl)
                try simp only [Act.put, List.setIfInBounds_toArray, List.set_cons_zero, List.set_cons_succ]
                refine takeH 14 rfl (v := ?_) (by kernel_rfl) (by kernel_rfl) (by kernel_rfl) (fun _ _ _ h => h) (by rfl) ?_ hHeld ?_
                rotate_left
                · (intro wy hSw; (try dsimp only at hSw); go_simp; try with_reducible rfl)
                try simp only [Act.put, List.setIfInBounds_toArray, List.set_cons_zero, List.set_cons_succ]
                refine takeH 15 rfl (v := ?_) (by kernel_rfl) (by kernel_rfl) (by kernel_rfl) (fun _ _ _ h => h) (by rfl) ?_ hHeld ?_
                rotate_left
                · (intro wy hSw; (try dsimp only at hSw); go_simp; try with_reducible rfl)
                try simp only [Act.put, List.setIfInBounds_toArray, List.set_cons_zero, List.set_cons_succ]
                refine takeH 16 rfl (v := ?_) (by kernel_rfl) (by kernel_rfl) (by kernel_rfl) (fun _ _ _ h => h) (by rfl) ?_ hHeld ?_
                rotate_left
                · (intro wy hSw; (try dsimp only at hSw); go_simp; try with_reducible rfl)
                try simp only [Act.put, List.setIfInBounds_toArray, List.set_cons_zero, List.set_cons_succ]
                refine takeH 17 rfl (v := ?_) (by kernel_rfl) (by kernel_rfl) (by kernel_rfl) (fun _ _ _ h => h) (by rfl) ?_ hHeld ?_
                rotate_left
                · (intro wy hSw; (try dsimp only at hSw); go_simp; try with_reducible rfl)
                try simp only [Act.put, List.setIfInBounds_toArray, List.set_cons_zero, List.set_cons_succ]
                refine skipH 18 rfl (by kernel_rfl) (by kernel_rfl) (by kernel_rfl) (fun _ _ _ h => h) (by rfl) hHeld ?_
                try simp only [Act.put, List.setIfInBounds_toArray, List.set_cons_zero, List.set_cons_succ]
                refine skipH 19 rfl (by kernel_rfl) (by kernel_rfl) (by kernel_rfl) (fun _ _ _ h => h) (by rfl) hHeld ?_
                try simp only [Act.put, List.setIfInBounds_toArray, List.set_cons_zero, List.set_cons_succ]
                refine skipH 20 rfl (by kernel_rfl) (by kernel_rfl) (by kernel_rfl) (fun _ _ _ h => h) (by rfl) hHeld ?_
                try simp only [Act.put, List.setIfInBounds_toArray, List.set_cons_zero, List.set_cons_succ]
                refine skipH 21 rfl (by kernel_rfl) (by kernel_rfl) (by kernel_rfl) (fun _ _ _ h => h) (by rfl) hHeld ?_
                try simp only [Act.put, List.setIfInBounds_toArray, List.set_cons_zero, List.set_cons_succ]
                refine skipH 22 rfl (by kernel_rfl) (by kernel_rfl) (by kernel_rfl) (fun _ _ _ h => h) (by rfl) hHeld ?_
                try simp only [Act.put, List.setIfInBounds_toArray, List.set_cons_zero, List.set_cons_succ]
                refine skipH 23 rfl (by kernel_rfl) (by kernel_rfl) (by kernel_rfl) (fun _ _ _ h => h) (by rfl) hHeld ?_
                try simp only [Act.put, List.setIfInBounds_toArray, List.set_cons_zero, List.set_cons_succ]
                refine skipH 24 rfl (by kernel_rfl) (by kernel_rfl) (by kernel_rfl) (fun _ _ _ h => h) (by rfl) hHeld ?_
                try simp only [Act.put, List.setIfInBounds_toArray, List.set_cons_zero, List.set_cons_succ]
                refine skipH 25 rfl (by kernel_rfl) (by kernel_rfl) (by kernel_rfl) (fun _ _ _ h => h) (by rfl) hHeld ?_
                try simp only [Act.put, List.setIfInBounds_toArray, List.set_cons_zero, List.set_cons_succ]
                refine skipH 26 rfl (by kernel_rfl) (by kernel_rfl) (by kernel_rfl) (fun _ _ _ h => h) (by rfl) hHeld ?_
                try simp only [Act.put, List.setIfInBounds_toArray, List.set_cons_zero, List.set_cons_succ]
                refine takeH 27 rfl (v := ?_) (by kernel_rfl) (by kernel_rfl) (by kernel_rfl) (fun _ _ _ h => h) (by rfl) ?_ hHeld ?_
                rotate_left
                · (intro wy hSw; (try dsimp only at hSw); go_simp; try with_reducible rfl)
                try simp only [Act.put, List.setIfInBounds_toArray, List.set_cons_zero, List.set_cons_succ]
                refine takeH 28 rfl (v := ?_) (by kernel_rfl) (by kernel_rfl) (by kernel_rfl) (fun _ _ _ h => h) (by rfl) ?_ hHeld ?_
                rotate_left
                · (intro wy hSw; (try dsimp only at hSw); go_simp; try with_reducible rfl)
                try simp only [Act.put, List.setIfInBounds_toArray, List.set_cons_zero, List.set_cons_succ]
                refine wpAnyH_done (by kernel_rfl) ?_ _
                refine NoPanic.normal ?_
                have HB5 := Lib.hid hx
                have ⟨q50, q51, q52⟩ := hx.cells
                clear hx hx1 hBd hHeld
                go_wp2_with fail
                go_at_call 18; refine (xsame HB5.out.set HB5.out.ref HB5.out.tab _).mono ?_; rintro e w7 ⟨rfl, h7⟩
                have HB7 := Lib.hid (HB5.out.to h7)
                clear h7
                go_wp2_with fail
                go_at_call 18; refine (xsame HB7.out.set HB7.out.ref HB7.out.tab _).mono ?_; rintro e w8 ⟨rfl, h8⟩
                have HB8 := Lib.hid (HB7.out.to h8)
                clear h8
                go_wp2_with fail
                go_roundw
                case rel => exact ⟨k + 1, b1, bw1, _, by omega, by go_num, rfl, HB8.out.set, HB8.out.ref, HB8.out.same, HB8.out.nb.1, HB8.out.nb.2.1⟩
                case measure => simp [intOf]; omega
              | false =>
                have hBd := HB0.out.to (Chg.drew _ _)
                go_wp2_with fail
                refine wp_region_noPanic ?_
                refine wp_region_held_drew (S := fun wx => wx.cell? ⟨wr.heap.size, 0, none⟩ = some (.int .i64 p) ∧ wx.cell? ⟨wr.heap.size, 1, none⟩ = some (.bool false)) (by kernel_rfl) ⟨hBd.cells.1, hBd.cells.2.1⟩ (fun hHeld => ?_)
                refine takeH 0 rfl (v := ?_) (by kernel_rfl) (by kernel_rfl) (by kernel_rfl) (fun _ _ _ h => h) (by rfl) ?_ hHeld ?_
                rotate_left
                · (intro wy hSw; (try dsimp only at hSw); go_simp; try with_reducible rfl)
                try simp only [Act.put, List.setIfInBounds_toArray, List.set_cons_zero, List.set_cons_succ]
                refine takeH 1 rfl (v := ?_) (by kernel_rfl) (by kernel_rfl) (by kernel_rfl) (fun _ _ _ h => h) (by rfl) ?_ hHeld ?_
                rotate_left
                · (intro wy hSw; (try dsimp only at hSw); go_simp; try with_reducible rfl)
                try simp only [Act.put, List.setIfInBounds_toArray, List.set_cons_zero, List.set_cons_succ]
                refine takeH 2 rfl (v := ?_) (by kernel_rfl) (by kernel_rfl) (by kernel_rfl) (fun _ _ _ h => h) (by rfl) ?_ hHeld ?_
                rotate_left
                · (intro wy hSw; (try dsimp only at hSw); go_simp; try with_reducible rfl)
                try simp only [Act.put, List.setIfInBounds_toArray, List.set_cons_zero, List.set_cons_succ]
                refine skipH 3 rfl (by kernel_rfl) (by kernel_rfl) (by kernel_rfl) (fun _ _ _ h => h) (by rfl) hHeld ?_
                try simp only [Act.put, List.setIfInBounds_toArray, List.set_cons_zero, List.set_cons_succ]
                refine skipH 4 rfl (by kernel_rfl) (by kernel_rfl) (by kernel_rfl) (fun _ _ _ h => h) (by rfl) hHeld ?_
                try simp only [Act.put, List.setIfInBounds_toArray, List.set_cons_zero, List.set_cons_succ]
                refine skipH 5 rfl (by kernel_rfl) (by kernel_rfl) (by kernel_rfl) (fun _ _ _ h => h) (by rfl) hHeld ?_
                try simp only [Act.put, List.setIfInBounds_toArray, List.set_cons_zero, List.set_cons_succ]
                refine skipH 6 rfl (by kernel_rfl) (by kernel_rfl) (by kernel_rfl) (fun _ _ _ h => h) (by rfl) hHeld ?_
                try simp only [Act.put, List.setIfInBounds_toArray, List.set_cons_zero, List.set_cons_succ]
                refine skipH 7 rfl (by kernel_rfl) (by kernel_rfl) (by kernel_rfl) (fun _ _ _ h => h) (by rfl) hHeld ?_
                try simp only [Act.put, List.setIfInBounds_toArray, List.set_cons_zero, List.set_cons_succ]
                refine skipH 8 rfl (by kernel_rfl) (by kernel_rfl) (by kernel_rfl) (fun _ _ _ h => h) (by rfl) hHeld ?_
                try simp only [Act.put, List.setIfInBounds_toArray, List.set_cons_zero, List.set_cons_succ]
                refine skipH 9 rfl (by kernel_rfl) (by kernel_rfl) (by kernel_rfl) (fun _ _ _ h => h) (by rfl) hHeld ?_
                try simp only [Act.put, List.setIfInBounds_toArray, List.set_cons_zero, List.set_cons_succ]
                refine skipH 10 rfl (by kernel_rfl) (by kernel_rfl) (by kernel_rfl) (fun _ _ _ h => h) (by rfl) hHeld ?_
                try simp only [Act.put, List.setIfInBounds_toArray, List.set_cons_zero, List.set_cons_succ]
                refine skipH 11 rfl (by kernel_rfl) (by kernel_rfl) (by kernel_rfl) (fun _ _ _ h => h) (by rfl) hHeld ?_
                try simp only [Act.put, List.setIfInBounds_toArray, List.set_cons_zero, List.set_cons_succ]
                refine takeH 12 rfl (v := ?_) (by kernel_rfl) (by kernel_rfl) (by kernel_rfl) (fun _ _ _ h => h) (by rfl) ?_ hHeld ?_
                rotate_left
                · (intro wy hSw; (try dsimp only at hSw); go_simp; try with_reducible rfl)
                try simp only [Act.put, List.setIfInBounds_toArray, List.set_cons_zero, List.set_cons_succ]
                refine takeH 13 rfl (v := ?_) (by kernel_rfl) (by kernel_rfl) (by kernel_rfl) (fun _ _ _ h => h) (by rfl) ?_ hHeld ?_
                rotate_left
                · (intro wy hSw; (try dsimp only at hSw); go_simp; try with_reducible rfl)
                try simp only [Act.put, List.setIfInBounds_toArray, List.set_cons_zero, List.set_cons_succ]
                refine takeH 14 rfl (v := ?_) (by kernel_rfl) (by kernel_rfl) (by kernel_rfl) (fun _ _ _ h => h) (by rfl) ?_ hHeld ?_
                rotate_left
                · (intro wy hSw; (try dsimp only at hSw); go_simp; try with_reducible rfl)
                try simp only [Act.put, List.setIfInBounds_toArray, List.set_cons_zero, List.set_cons_succ]
                refine takeH 15 rfl (v := ?_) (by kernel_rfl) (by kernel_rfl) (by kernel_rfl) (fun _ _ _ h => h) (by rfl) ?_ hHeld ?_
                rotate_left
                · (intro wy hSw; (try dsimp only at hSw); go_simp; try with_reducible rfl)
                try simp only [Act.put, List.setIfInBounds_toArray, List.set_cons_zero, List.set_cons_succ]
                refine takeH 16 rfl (v := ?_) (by kernel_rfl) (by kernel_rfl) (by kernel_rfl) (fun _ _ _ h => h) (by rfl) ?_ hHeld ?_
                rotate_left
                · (intro wy hSw; (try dsimp only at hSw); go_simp; try with_reducible rfl)
                try simp only [Act.put, List.setIfInBounds_toArray, List.set_cons_zero, List.set_cons_succ]
                refine takeH 17 rfl (v := ?_) (by kernel_rfl) (by kernel_rfl) (by kernel_rfl) (fun _ _ _ h => h) (by rfl) ?_ hHeld ?_
                rotate_left
                · (intro wy hSw; (try dsimp only at hSw); go_simp; try with_reducible rfl)
                try simp only [Act.put, List.setIfInBounds_toArray, List.set_cons_zero, List.set_cons_succ]
                refine takeH 18 rfl (v := ?_) (by kernel_rfl) (by kernel_rfl) (by kernel_rfl) (fun _ _ _ h => h) (by rfl) ?_ hHeld ?_
                rotate_left
                · (intro wy hSw; (try dsimp only at hSw); go_simp; try with_reducible rfl)
                try simp only [Act.put, List.setIfInBounds_toArray, List.set_cons_zero, List.set_cons_succ]
                refine takeH 19 rfl (v := ?_) (by kernel_rfl) (by kernel_rfl) (by kernel_rfl) (fun _ _ _ h => h) (by rfl) ?_ hHeld ?_
                rotate_left
                · (intro wy hSw; (try dsimp only at hSw); go_simp; try with_reducible rfl)
                try simp only [Act.put, List.setIfInBounds_toArray, List.set_cons_zero, List.set_cons_succ]
                refine takeH 20 rfl (v := ?_) (by kernel_rfl) (by kernel_rfl) (by kernel_rfl) (fun _ _ _ h => h) (by rfl) ?_ hHeld ?_
                rotate_left
                · (intro wy hSw; (try dsimp only at hSw); go_simp; try with_reducible rfl)
                try simp only [Act.put, List.setIfInBounds_toArray, List.set_cons_zero, List.set_cons_succ]
                refine takeH 22 rfl (v := ?_) (by kernel_rfl) (by kernel_rfl) (by kernel_rfl) (fun _ _ _ h => h) (by rfl) ?_ hHeld ?_
                rotate_left
                · (intro wy hSw; (try dsimp only at hSw); go_simp; try with_reducible rfl)
                try simp only [Act.put, List.setIfInBounds_toArray, List.set_cons_zero, List.set_cons_succ]
                refine takeH 23 rfl (v := ?_) (by kernel_rfl) (by kernel_rfl) (by kernel_rfl) (fun _ _ _ h => h) (by rfl) ?_ hHeld ?_
                rotate_left
                · (intro wy hSw; (try dsimp only at hSw); go_simp; try with_reducible rfl)
                try simp only [Act.put, List.setIfInBounds_toArray, List.set_cons_zero, List.set_cons_succ]
                refine takeH 24 rfl (v := ?_) (by kernel_rfl) (by kernel_rfl) (by kernel_rfl) (fun _ _ _ h => h) (by rfl) ?_ hHeld ?_
                rotate_left
                · (intro wy hSw; (try dsimp only at hSw); go_simp; try with_reducible rfl)
                try simp only [Act.put, List.setIfInBounds_toArray, List.set_cons_zero, List.set_cons_succ]
                refine nextH 21 rfl (by kernel_rfl) (by rfl) (fun K hK => ?_)
                go_simp
                refine (b_add hBd _).mono ?_; rintro e wx ⟨rfl, hx, -⟩
                try dsimp only
                refine hK.out _ _ ⟨hx.cells.1, hx.cells.2.1⟩ (fun hHeld => ?_)
                clear hK K
                try simp only [Act.put, List.setIfInBounds_toArray, List.set_cons_zero, List.set_cons_succ]
                have hx1 := hx
                refine nextH 25 rfl (by kernel_rfl) (by rfl) (fun K hK => ?_)
                go_simp
                refine (b_radd hx1 _).mono ?_; rintro e wx ⟨rfl, hx⟩
                try dsimp only
                refine hK.out _ _ ⟨hx.cells.1, hx.cells.2.1⟩ (fun hHeld => ?_)
                clear hK K
                try simp only [Act.put, List.setIfInBounds_toArray, List.set_cons_zero, List.set_cons_succ]
                refine takeH 26 rfl (v := ?_) (by kernel_rfl) (by kernel_rfl) (by kernel_rfl) (fun _ _ _ h => h) (by rfl) ?_ hHeld ?_
                rotate_left
                · (intro wy hSw; (try dsimp only at hSw); go_simp; try with_reducible rfl)
                try simp only [Act.put, List.setIfInBounds_toArray, List.set_cons_zero, List.set_cons_succ]
                refine takeH 27 rfl (v := ?_) (by kernel_rfl) (by kernel_rfl) (by kernel_rfl) (fun _ _ _ h => h) (by rfl) ?_ hHeld ?_
                rotate_left
                · (intro wy hSw; (try dsimp only at hSw); go_simp; try with_reducible rfl)
                try simp only [Act.put, List.setIfInBounds_toArray, List.set_cons_zero, List.set_cons_succ]
                refine takeH 28 rfl (v := ?_) (by kernel_rfl) (by kernel_rfl) (by kernel_rfl) (fun _ _ _ h => h) (by rfl) ?_ hHeld ?_
                rotate_left
                · (intro wy hSw; (try dsimp only at hSw); go_simp; try with_reducible rfl)
                try simp only [Act.put, List.setIfInBounds_toArray, List.set_cons_zero, List.set_cons_succ]
                refine wpAnyH_done (by kernel_rfl) ?_ _
                refine NoPanic.normal ?_
                have HB5 := Lib.hid hx
                have ⟨q50, q51, q52⟩ := hx.cells
                clear hx hx1 hBd hHeld
                go_wp2_with fail
                go_at_call 18; refine (xsame HB5.out.set HB5.out.ref HB5.out.tab _).mono ?_; rintro e w7 ⟨rfl, h7⟩
                have HB7 := Lib.hid (HB5.out.to h7)
                clear h7
                go_wp2_with fail
                go_at_call 18; refine (xsame HB7.out.set HB7.out.ref HB7.out.tab _).mono ?_; rintro e w8 ⟨rfl, h8⟩
                have HB8 := Lib.hid (HB7.out.to h8)
                clear h8
                go_wp2_with fail
                go_roundw
                case rel => exact ⟨k + 1, b1, bw1, _, by omega, by go_num, rfl, HB8.out.set, HB8.out.ref, HB8.out.same, HB8.out.nb.1, HB8.out.nb.2.1⟩
                case measure => simp [intOf]; omega
          · go_wp2_with fail
            go_ret
            exact ⟨rfl, HR.out.2.2.1⟩

end Go.Proofs.YtbebjpdbnpdpfaaDoor
