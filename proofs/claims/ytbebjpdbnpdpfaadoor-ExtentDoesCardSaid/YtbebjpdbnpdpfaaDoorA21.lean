/- The walks of the law of package extent: a set is what it must be. -/
import Derived.Test.YtbebjpdbnpdpfaaDoorA20
import Derived.Deep.RegionHeld3
import Derived.Deep.Cut
import Derived.Deep.CutRange
set_option maxRecDepth 100000
set_option linter.unusedVariables false
set_option linter.unusedSimpArgs false
namespace Go.Proofs.YtbebjpdbnpdpfaaDoor
open Go.RowKit

section
variable {w0 w w' : World} {b bw r rw cap : Nat} {l : List Bool} {a7 : Option Addr} {xs : List Nat}
theorem Hold.cellr (hb : Blk w0 r 84 [.slice (some ⟨rw, 0, none⟩) l.length cap]) (h : Hold w0 b bw r rw l a7 xs w) : w.cell? ⟨r, 0, none⟩ = some (.slice (some ⟨rw, 0, none⟩) l.length cap) := (hb.same h.same).cell 0

end

set_option maxHeartbeats 40000000 in
theorem xsame {w : World} {b bw r rw : Nat} {l : List Bool} (hS : SetAt w b bw l) (hR : RefAt w r rw l) (hT : Tab w) (n : Int) :
    Calls Tryd.prog 18 #[.pointer (some ⟨b, 0, none⟩), .pointer (some ⟨r, 0, none⟩), .int .i64 n] w fun e w' => e = .returned (.bool true) ∧ Same w w' := by
  have hsm := hS.2.2.1
  have hle := elems_len_le l
  have hR' := hR
  obtain ⟨-, -, -, sp, cap, hB84, -⟩ := hR'
  have HF1 : Hid (∀ k, k = min (Int.toNat 1048576) (elems l).length → k = (elems l).length) := fun k h => by rw [h]; simp; omega
  have HF2 : Hid (∀ W a, View W a (ints ((elems l).take (Int.toNat 1048576))) → View W a (ints (elems l))) := fun W a h => by rwa [List.take_of_length_le (by simp; omega)] at h
  have HF3 : Hid (∀ k : Nat, k = min (Int.toNat 2) (elems l).length → (k : Int) = min 2 ((elems l).length : Int)) := fun k h => by rw [h, show Int.toNat 2 = 2 from rfl]; omega
  have HS := Lib.hid hS
  have HR := Lib.hid hR
  have HT := Lib.hid hT
  have H84 := Lib.hid hB84
  clear hS hR hT hB84 sp
  go_enter Tryd.func18, Tryd.ntmps18
  go_upto_region 2 with (go_at_call 60; refine (rall HR.out).mono ?_; rintro e w1 ⟨v, rfl, hn⟩; obtain ⟨a7, c7, rfl, hv7⟩ := hn.form; have hH : Hold w b bw r rw l a7 (elems l) w1 := ⟨HS.out.same hn.2.1, HR.out.same hn.2.1, HT.out.same hn.2.1, hv7, hn.2.1⟩; clear hn hv7)
  have hex : (elems l).length ≤ 4096 := by omega
  go_cut [73] from 14 to 73 (fun v wx => v = .bool false ∧ Hid (Hold w b bw r rw l a7 (elems l) wx))
  case first =>
    by_cases hmin : (elems l).length < 2
    · have hmi' : ((elems l).length : Int) < 2 := by omega
      go_region_held3 (fun wx => Hold w b bw r rw l a7 (elems l) wx ∧ wx.cell? ⟨r, 0, none⟩ = some (.slice (some ⟨rw, 0, none⟩) l.length cap))
        (first | exact ⟨‹_›, Hold.cellr H84.out ‹_›⟩ | exact ⟨hH.drew, Hold.cellr H84.out hH.drew⟩)
        (first
          | (go_at_call 61; refine (h_size (by first | assumption | exact And.left (by assumption))).mono ?_; rintro e wx ⟨rfl, hx⟩)
          | (go_at_call 51; refine (h_len (by first | assumption | exact And.left (by assumption))).mono ?_; rintro e wx ⟨rfl, hx⟩)
          | (go_at_call 57; refine (h_has (by first | assumption | exact And.left (by assumption)) _).mono ?_; rintro e wx ⟨rfl, hx⟩)
          | (go_at_call 62; refine (h_rhas (by first | assumption | exact And.left (by assumption)) _).mono ?_; rintro e wx ⟨rfl, hx⟩)
          | (go_at_call 63; refine (h_first (by first | assumption | exact And.left (by assumption)) _).mono ?_; rintro e wx ⟨rfl, hx⟩)
          | (go_at_call 64; refine (h_rfirst (by first | assumption | exact And.left (by assumption)) _).mono ?_; rintro e wx ⟨rfl, hx⟩)
          | (go_at_call 52; refine (h_run (by first | assumption | exact And.left (by assumption)) _).mono ?_; rintro e wx ⟨rfl, hx⟩)
          | (go_at_call 65; refine (h_rrun (by first | assumption | exact And.left (by assumption)) _).mono ?_; rintro e wx ⟨rfl, hx⟩)
          | (go_at_call 67; refine (h_all (by first | assumption | exact And.left (by assumption))).mono ?_; rintro e wx ⟨ci, rfl, hbi, hx⟩)
          | (go_at_call 66; refine (h_pages (by assumption) (by first | assumption | exact And.left (by assumption)) _).mono ?_; rintro e wx ⟨ai, mi, ni, rfl, hmi, hvi, hx⟩; first | (have hm2 := Lib.hid (HF3.out _ hmi); clear hmi hvi) | (obtain rfl := HF1.out _ hmi; have hvx := HF2.out _ _ hvi; clear hvi hmi))
          | (go_at_call 53; refine (h_ints (by assumption) hex rfl (by first | assumption | exact And.left (by assumption))).mono ?_; rintro e wx ⟨rfl, hx⟩))
      all_goals
        go_wp2_with fail
        go_meet
        have hq := hm2.out
        refine ⟨congrArg Value.bool ?_, hx⟩
        simp
        omega
    · have hmi' : (2 : Int) ≤ ((elems l).length : Int) := by omega
      have hmi'' : ¬ ((elems l).length : Int) < 2 := by omega
      go_region_held3 (fun wx => Hold w b bw r rw l a7 (elems l) wx ∧ wx.cell? ⟨r, 0, none⟩ = some (.slice (some ⟨rw, 0, none⟩) l.length cap))
        (first | exact ⟨‹_›, Hold.cellr H84.out ‹_›⟩ | exact ⟨hH.drew, Hold.cellr H84.out hH.drew⟩)
        (first
          | (go_at_call 61; refine (h_size (by first | assumption | exact And.left (by assumption))).mono ?_; rintro e wx ⟨rfl, hx⟩)
          | (go_at_call 51; refine (h_len (by first | assumption | exact And.left (by assumption))).mono ?_; rintro e wx ⟨rfl, hx⟩)
          | (go_at_call 57; refine (h_has (by first | assumption | exact And.left (by assumption)) _).mono ?_; rintro e wx ⟨rfl, hx⟩)
          | (go_at_call 62; refine (h_rhas (by first | assumption | exact And.left (by assumption)) _).mono ?_; rintro e wx ⟨rfl, hx⟩)
          | (go_at_call 63; refine (h_first (by first | assumption | exact And.left (by assumption)) _).mono ?_; rintro e wx ⟨rfl, hx⟩)
          | (go_at_call 64; refine (h_rfirst (by first | assumption | exact And.left (by assumption)) _).mono ?_; rintro e wx ⟨rfl, hx⟩)
          | (go_at_call 52; refine (h_run (by first | assumption | exact And.left (by assumption)) _).mono ?_; rintro e wx ⟨rfl, hx⟩)
          | (go_at_call 65; refine (h_rrun (by first | assumption | exact And.left (by assumption)) _).mono ?_; rintro e wx ⟨rfl, hx⟩)
          | (go_at_call 67; refine (h_all (by first | assumption | exact And.left (by assumption))).mono ?_; rintro e wx ⟨ci, rfl, hbi, hx⟩)
          | (go_at_call 66; refine (h_pages (by assumption) (by first | assumption | exact And.left (by assumption)) _).mono ?_; rintro e wx ⟨ai, mi, ni, rfl, hmi, hvi, hx⟩; first | (have hm2 := Lib.hid (HF3.out _ hmi); clear hmi hvi) | (obtain rfl := HF1.out _ hmi; have hvx := HF2.out _ _ hvi; clear hvi hmi))
          | (go_at_call 53; refine (h_ints (by assumption) hex rfl (by first | assumption | exact And.left (by assumption))).mono ?_; rintro e wx ⟨rfl, hx⟩))
      all_goals
        go_wp2_with fail
        go_meet
        have hq := hm2.out
        refine ⟨congrArg Value.bool ?_, hx⟩
        simp
        omega
  case rest =>
    obtain ⟨rfl, HH⟩ := hcut
    go_wp2_with fail
    go_at_call 50; refine (h_runs HH.out).mono ?_; rintro e w2 ⟨ci, rfl, hbi, hx⟩
    have HBI := Lib.hid hbi
    have HX := Lib.hid hx
    clear hbi hx
    go_wp2_with fail
    go_at_call 49; refine (h_told HBI.out HX.out 1048576).mono ?_; rintro e w3 ⟨a1, a2, n1, c1, c2, rfl, hn1, hv1, hv2, hx3⟩
    have hrl := runsB_len_le l
    have e1 : n1 = (runsB l).length := by rw [hn1]; simp; omega
    rw [List.take_of_length_le (by simp [firsts]; omega)] at hv1
    rw [List.take_of_length_le (by simp [seconds]; omega)] at hv2
    obtain ⟨L, hL⟩ : ∃ L, L = (runsB l).length := ⟨_, rfl⟩
    have HL := Lib.hid hL
    rw [← hL] at e1 hrl
    subst e1
    have HX3 := Lib.hid hx3
    have HV1 := Lib.hid hv1
    have HV2 := Lib.hid hv2
    clear hn1 hv1 hv2 hx3 hL
    go_wp2_with fail
    go_at_call 68; refine (rruns HX3.out.ref).mono ?_; rintro e w4 ⟨v, gs, rfl, hr⟩
    obtain ⟨a3, c3, e3, -, -, hv3, -⟩ := hr.row.form
    rw [pairs_len, hr.len, ← HL.out] at e3
    have HR4 := Lib.hid hr
    have HV3 := Lib.hid hv3
    clear hr hv3
    subst e3
    go_wp2_with fail
    go_loopw [89] (fun i wr => ∃ k m : Nat, k ≤ n1 ∧ i = .int .i64 k ∧ wr = w4.drewN m) (fun i _ => n1 - (intOf i).toNat)
    case atStart => exact ⟨0, 0, Nat.zero_le _, rfl, rfl⟩
    case round =>
      obtain ⟨k, m, hk, rfl, rfl⟩ := hrel
      by_cases hlt : k < n1
      · have hlt' : k < (runsB l).length := by rw [← HL.out]; exact hlt
        have hlg : k < gs.length := by rw [HR4.out.len]; exact hlt'
        obtain ⟨p, hp⟩ : ∃ p, p = (runsB l)[k] := ⟨_, rfl⟩
        obtain ⟨g, hg⟩ : ∃ g, g = gs[k] := ⟨_, rfl⟩
        have hb4 := HR4.out.at_ k g p (by rw [hg]; exact List.getElem?_eq_getElem hlg) (by rw [hp]; exact List.getElem?_eq_getElem hlt')
        have hs4 : Same w3 w4 := HR4.out.same
        obtain ⟨b1, o1, rfl, hq1⟩ := (HV1.out.same hs4) k (.int .i64 (p.1 : Nat)) (by rw [ints_get (by simpa [firsts] using hlt')]; simp [firsts, hp])
        obtain ⟨b2, o2, rfl, hq2⟩ := (HV2.out.same hs4) k (.int .i64 (p.2 : Nat)) (by rw [ints_get (by simpa [seconds] using hlt')]; simp [seconds, hp])
        obtain ⟨b3, o3, rfl, hq3⟩ := HV3.out k (.slice (some ⟨g, 0, none⟩) 2 2) (by simp [pairs, pairAt, hg, List.getElem?_eq_getElem hlg])
        have hq4 : w4.cell? ⟨g, 0, none⟩ = some (.int .i64 (p.1 : Nat)) := hb4.cell 0
        have hq5 : w4.cell? ⟨g, 1, none⟩ = some (.int .i64 (p.2 : Nat)) := hb4.cell 1
        obtain ⟨x, hx⟩ : ∃ x, x = p.1 := ⟨_, rfl⟩
        obtain ⟨y, hy⟩ : ∃ y, y = p.2 := ⟨_, rfl⟩
        rw [← hx] at hq1 hq4
        rw [← hy] at hq2 hq5
        have hi : (k : Int) < n1 := by omega
        have hk0 : (0 : Int) ≤ k := by omega
        clear hb4 hs4 hp hg hx hy
        go_wp2_with fail
        go_quiet (fail)
        go_wp2
        go_roundw
        case rel => exact ⟨k + 1, m + nq, by omega, by go_num, by first | exact World.drewN_drewN .. | rfl⟩
        case measure => simp [intOf]; omega
      · go_wp2_with fail
        have hh : Hold w b bw r rw l a7 (elems l) (w4.drewN m) := HX3.out.to (HR4.out.same.trans (Chg.drewN _ _ _))
        have HH5 := Lib.hid hh
        clear hh
        go_at_call 50; refine (h_runs HH5.out).mono ?_; rintro e w5 ⟨cj, rfl, hbj, hx⟩
        have HBJ := Lib.hid hbj
        have HX5 := Lib.hid hx
        clear hbj hx
        go_wp2_with fail
        go_at_call 49; refine (h_told HBJ.out HX5.out 1).mono ?_; rintro e w6 ⟨a4, a5, n4, c4, c5, rfl, hn4, -, -, hx6⟩
        have hn4' : (n4 : Int) = min 1 (n1 : Int) := by rw [hn4, show Int.toNat 1 = 1 from rfl, ← HL.out]; omega
        have HN4 := Lib.hid hn4'
        have HX6 := Lib.hid hx6
        clear hn4 hn4' hx6
        go_wp2_with fail
        all_goals
          go_ret
          have hq := HN4.out
          exact ⟨ret_bool (by simp <;> omega), HX6.out.same⟩

end Go.Proofs.YtbebjpdbnpdpfaaDoor
