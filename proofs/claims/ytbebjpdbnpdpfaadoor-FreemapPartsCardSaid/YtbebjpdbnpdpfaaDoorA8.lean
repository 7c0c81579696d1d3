/- The walks of package extent: the iterator over a set's runs. -/
import Derived.Test.YtbebjpdbnpdpfaaDoorA7
import Derived.Test.YtbebjpdbnpdpfaaDoorM7
set_option maxRecDepth 100000
set_option linter.unusedVariables false
set_option linter.unusedSimpArgs false
namespace Go.Proofs.YtbebjpdbnpdpfaaDoor
open Go.RowKit Go.Shelf
attribute [local go_sem] Oper.semAt_some wide_fn wide_depth

theorem xruns (b : Nat) (w : World) : Calls Tryd.prog 50 #[.pointer (some ⟨b, 0, none⟩)] w fun e w' => e = .returned (.func (.func 89) #[] #[.pointer (some ⟨w.heap.size, 0, none⟩)]) ∧ w.alloc (.cells #[.pointer (some ⟨b, 0, none⟩)] 23) = w' := by
  go_enter Tryd.func50, Tryd.ntmps50
  go_wp2
  go_ret
  exact ⟨rfl, rfl⟩

theorem pageLeft_from (l : List Bool) (p : Nat) (hp : p < l.length) (en : Nat) (h : p < en) : pageLeft l (firstB l (en : Int)) < pageLeft l (p : Int) := by
  unfold pageLeft
  have e2 : ¬ ((p : Int) < 0) := by omega
  rcases firstB_cases l (en : Int) with ⟨h1, h2⟩ | ⟨r, h1, h2, h3, h4, h5⟩
  · rw [h1, if_pos (by decide), if_neg e2]
    omega
  · rw [h1]
    have e1 : ¬ ((r : Int) < 0) := by omega
    rw [if_neg e1, if_neg e2]
    omega

abbrev int2 (p : Nat × Nat) : Array Value := #[.int .i64 (p.1 : Nat), .int .i64 (p.2 : Nat)]

theorem xruns_iter {W : World} {b bw c : Nat} {l : List Bool} {O : Nat → Prop} (hS : SetAt W b bw l) (hT : Tab W) (hc : Blk W c 23 [.pointer (some ⟨b, 0, none⟩)]) (hO : ¬ O b ∧ ¬ O bw ∧ ¬ O c ∧ ¬ O 0) (hv : ∀ k, O k → k < W.heap.size) :
    IterAt Tryd.prog 89 #[.pointer (some ⟨c, 0, none⟩)] int2 (runsB l) O W := by
  intro n lp J Jx hJ hJx hY h0
  refine callsIn_of_wp Tryd.func89 rfl trivial ?_ rfl
  simp only [Tryd.ntmps89, List.size_toArray, List.length_cons, List.length_nil, Nat.reduceAdd, Nat.reduceSub, Array.replicate_succ, Array.replicate_zero, List.push_toArray, List.append_toArray, List.nil_append, List.cons_append]
  have hcc : W.cell? ⟨c, 0, none⟩ = some (.pointer (some ⟨b, 0, none⟩)) := hc.cell 0
  have hsm : l.length ≤ 2048 := hS.2.2.1
  have HS := Lib.hid hS
  have HT := Lib.hid hT
  clear hS hT
  gi_wp2_with fail
  refine (callsIn_wide.2 (xnot HS.out)).mono ?_
  rintro e W1 ⟨b', bw', rfl, hN, hsame, hb1, hb2⟩
  have hc1 : Blk W1 c 23 [.pointer (some ⟨b, 0, none⟩)] := hc.same hsame
  have hcc1 : W1.cell? ⟨c, 0, none⟩ = some (.pointer (some ⟨b, 0, none⟩)) := hc1.cell 0
  have hS1 := HS.out.same hsame
  have hT1 := HT.out.same hsame
  have hJ1 : J 0 O W1 := hJ 0 O W W1 h0 hsame.to
  have hO' : ¬ O b' ∧ ¬ O bw' := ⟨fun h => by have := hv _ h; omega, fun h => by have := hv _ h; omega⟩
  have hv1 : ∀ k, O k → k < W1.heap.size := fun k h => Nat.lt_of_lt_of_le (hv k h) hsame.size
  have HS1 := Lib.hid hS1
  have HT1 := Lib.hid hT1
  have HN := Lib.hid hN
  clear hS1 hT1 hN
  gi_wp2_with (gi_at_call 63; refine (callsIn_wide.2 (xfirst HS1.out HT1.out 0)).mono ?_; rintro e w' ⟨rfl, rfl⟩)
  gi_loopw [4, 5] (fun p _ wr => ∃ (i : Nat) (O1 : Nat → Prop) (q : Int), p = .int .i64 q ∧ i ≤ (runsB l).length ∧ J i O1 wr ∧ Hid ((∃ q0 : Nat, q = firstB l q0 ∧ (runsB l).drop i = runsAt l q0) ∧ (SetAt wr b bw l ∧ Tab wr ∧ Blk wr c 23 [.pointer (some ⟨b, 0, none⟩)] ∧ SetAt wr b' bw' (notB l)) ∧ (¬ O1 b ∧ ¬ O1 bw ∧ ¬ O1 c ∧ ¬ O1 0 ∧ ¬ O1 b' ∧ ¬ O1 bw') ∧ ∀ k, O1 k → k < wr.heap.size))
    (fun p _ wr => pageLeft l (intOf p))
  case atStart =>
    exact ⟨0, O, _, rfl, Nat.zero_le _, hJ1, ⟨0, rfl, by rw [runsB_at]; rfl⟩, ⟨HS1.out, HT1.out, hc1, HN.out⟩, ⟨hO.1, hO.2.1, hO.2.2.1, hO.2.2.2, hO'.1, hO'.2⟩, hv1⟩
  case round =>
    obtain ⟨i, O1, q, rfl, hi, hJ1, HR⟩ := hrel
    by_cases hlt : 0 ≤ q
    · obtain ⟨p, en, rfl, hpl, hend, hgt, HEF, HX⟩ : ∃ p en : Nat, q = p ∧ p < l.length ∧ en ≤ l.length ∧ p < en ∧ Hid (firstB (notB l) (p : Int) = if en < l.length then (en : Int) else -1) ∧ Hid ((runsB l)[i]? = some (p, en - p) ∧ (runsB l).drop (i + 1) = runsAt l en) := by
        obtain ⟨⟨q0, h1, h2⟩, _⟩ := HR.out
        rw [firstB_N] at h1
        by_cases h : firstN l q0 < l.length
        · rw [if_pos h] at h1
          exact ⟨firstN l q0, endB l (firstN l q0), h1, h, endB_le (by omega), endB_gt h (firstN_true h), endB_first l _ (by omega), runs_step h2 h⟩
        · rw [if_neg h] at h1; omega
      have hcell : wr.cell? ⟨c, 0, none⟩ = some (.pointer (some ⟨b, 0, none⟩)) := HR.out.2.1.2.2.1.cell 0
      have hlen : wr.cell? ⟨b, 0, none⟩ = some (.int .i64 (l.length : Nat)) := by
        obtain ⟨_, _, _, ws, sp, cap, _, hst, _⟩ := HR.out.2.1.1
        exact hst.cell 0
      have hil : i < (runsB l).length := (List.getElem?_eq_some_iff.1 HX.out.1).1
      obtain ⟨fn, tmps, assign, body, hy, hR⟩ := hY i hil O1 wr hJ1 HR.out.2.2.2
      have e : (runsB l)[i] = (p, en - p) := by
        have := HX.out.1
        rw [List.getElem?_eq_getElem hil] at this
        exact Option.some.inj this
      rw [show int2 (runsB l)[i] = #[Value.int .i64 (p : Nat), Value.int .i64 ((en : Nat) - (p : Nat) : Int)] by rw [e]; simp; omega] at hy
      clear e
      -- behind the round
      have hback : ∀ (e : Ending) W', (∃ O', Owns O1 O' wr W' ∧ ((e = .returned (.bool true) ∧ J (i + 1) O' W') ∨ (e = .returned (.bool false) ∧ Jx (i + 1) O' W'))) →
          (e = .returned (.bool true) ∧ ∃ O', J (i + 1) O' W' ∧ (SetAt W' b bw l ∧ Tab W' ∧ Blk W' c 23 [.pointer (some ⟨b, 0, none⟩)] ∧ SetAt W' b' bw' (notB l)) ∧ (¬ O' b ∧ ¬ O' bw ∧ ¬ O' c ∧ ¬ O' 0 ∧ ¬ O' b' ∧ ¬ O' bw') ∧ ∀ k, O' k → k < W'.heap.size) ∨
          (e = .returned (.bool false) ∧ ∃ O', Jx (i + 1) O' W') := by
        obtain ⟨_, ⟨k1, k2, k3, k9⟩, ⟨k4, k5, k6, k7, k10, k11⟩, k8⟩ := HR.out
        rintro e W' ⟨O', hown, (⟨rfl, hJ'⟩ | ⟨rfl, hJx'⟩)⟩
        · have g4 : ∀ j, j < wr.heap.size → ¬ O1 j → ¬ O' j := fun j hj hn h => by rcases hown.grow j h with h | h; exact hn h; omega
          exact .inl ⟨rfl, O', hJ', ⟨k1.keep hown.chg k4 k5, k2.keep hown.chg k7, k3.keep hown.chg k6, k9.keep hown.chg k10 k11⟩, ⟨g4 _ k1.lt.1 k4, g4 _ k1.lt.2 k5, g4 _ k3.lt k6, g4 _ k2.pos k7, g4 _ k9.lt.1 k10, g4 _ k9.lt.2 k11⟩, hown.lt⟩
        · exact .inr ⟨rfl, O', hJx'⟩
      have HRR := Lib.hid (hR.mono hback)
      clear hR hback
      have hm := pageLeft_from l p hpl en hgt
      have HM := Lib.hid hm
      clear hm
      by_cases hel : en < l.length
      · have hef := HEF.out
        rw [if_pos hel] at hef
        have HEF2 := Lib.hid hef
        clear hef
        gi_wp2_with (gi_at_call 63; refine (callsIn_wide.2 (xfirst HR.out.2.1.2.2.2 HR.out.2.1.2.1 (p : Int))).mono ?_; rintro e w' ⟨rfl, rfl⟩; rw [HEF2.out])
        refine (roundAny HRR.out).mono ?_
        rintro e W' (⟨rfl, O', hJ', HG, hO2, hv2⟩ | ⟨rfl, O', hJx'⟩)
        · have hcc' : W'.cell? ⟨c, 0, none⟩ = some (.pointer (some ⟨b, 0, none⟩)) := HG.2.2.1.cell 0
          have HG' := Lib.hid (⟨HG, hO2, hv2⟩ : _ ∧ _ ∧ _)
          clear HG hO2 hv2
          gi_wp2_with (gi_at_call 63; refine (callsIn_wide.2 (xfirst HG'.out.1.1 HG'.out.1.2.1 (en : Int))).mono ?_; rintro e w' ⟨rfl, rfl⟩)
          go_roundw
          case rel => exact ⟨i + 1, O', _, rfl, by omega, hJ', ⟨en, rfl, HX.out.2⟩, HG'.out⟩
          case measure => exact HM.out
        · gi_wp2
          refine bodyPost_ret (results_none rfl _ _ _) rfl ?_
          exact ⟨⟨_, rfl⟩, O', .inr ⟨i + 1, by omega, hJx'⟩⟩
      · have hef := HEF.out
        rw [if_neg hel] at hef
        have HEF2 := Lib.hid hef
        clear hef
        obtain rfl : en = l.length := by omega
        gi_wp2_with (gi_at_call 63; refine (callsIn_wide.2 (xfirst HR.out.2.1.2.2.2 HR.out.2.1.2.1 (p : Int))).mono ?_; rintro e w' ⟨rfl, rfl⟩; rw [HEF2.out])
        refine (roundAny HRR.out).mono ?_
        rintro e W' (⟨rfl, O', hJ', HG, hO2, hv2⟩ | ⟨rfl, O', hJx'⟩)
        · have hcc' : W'.cell? ⟨c, 0, none⟩ = some (.pointer (some ⟨b, 0, none⟩)) := HG.2.2.1.cell 0
          have HG' := Lib.hid (⟨HG, hO2, hv2⟩ : _ ∧ _ ∧ _)
          clear HG hO2 hv2
          gi_wp2_with (gi_at_call 63; refine (callsIn_wide.2 (xfirst HG'.out.1.1 HG'.out.1.2.1 (l.length : Int))).mono ?_; rintro e w' ⟨rfl, rfl⟩)
          go_roundw
          case rel => exact ⟨i + 1, O', _, rfl, by omega, hJ', ⟨l.length, rfl, HX.out.2⟩, HG'.out⟩
          case measure => exact HM.out
        · gi_wp2
          refine bodyPost_ret (results_none rfl _ _ _) rfl ?_
          exact ⟨⟨_, rfl⟩, O', .inr ⟨i + 1, by omega, hJx'⟩⟩
    · obtain ⟨⟨q0, h1, h2⟩, _⟩ := HR.out
      have hq : q = -1 ∧ (runsB l).length ≤ i := by
        rw [firstB_N] at h1
        by_cases h : firstN l q0 < l.length
        · rw [if_pos h] at h1; omega
        · rw [if_neg h] at h1; exact ⟨h1, runs_end h2 h⟩
      clear h1 h2
      obtain ⟨rfl, hle⟩ := hq
      gi_wp2
      go_end0
      obtain rfl : i = (runsB l).length := by omega
      exact ⟨⟨_, rfl⟩, O1, .inl hJ1⟩

end Go.Proofs.YtbebjpdbnpdpfaaDoor
