/- The walks of package extent: iterators over a set's pages. -/
import Derived.Test.YtbebjpdbnpdpfaaDoorA6
import Derived.Test.YtbebjpdbnpdpfaaDoorM6
set_option maxRecDepth 100000
set_option linter.unusedVariables false
set_option linter.unusedSimpArgs false
namespace Go.Proofs.YtbebjpdbnpdpfaaDoor
open Go.RowKit Go.Shelf
/-- At the fence that asks nothing the depth is nothing. -/
theorem roundAny {n m : Nat} {P : Program} {l : Nat} {f : FuncId} {tmps : Array Value} {assign body : Code} {w : World} {R : Ending → World → Prop}
    (h : RoundIn Fence.wide n P l f tmps assign body w R) : RoundIn Fence.wide m P l f tmps assign body w R := ⟨h.1, fun c cs _ => h.2 c cs (room_wide _)⟩
theorem roundAnyR {n m l₀ : Nat} {P : Program} {l : Nat} {f : FuncId} {tmps : Array Value} {assign body : Code} {w : World} {R : Ending → World → Prop}
    (h : RoundIn Fence.wide n P l f tmps assign body w R) : RoundIn (Fence.wide.inRound l₀) m P l f tmps assign body w R := ⟨h.1, fun c cs _ => h.2 c cs (room_wide _)⟩
theorem wide_fn (f : FuncId) : Fence.wide.fn f = True := rfl
theorem wide_depth : Fence.wide.depth = none := rfl
attribute [local go_sem] Oper.semAt_some wide_fn wide_depth

theorem xall (b : Nat) (w : World) : Calls Tryd.prog 67 #[.pointer (some ⟨b, 0, none⟩)] w fun e w' => e = .returned (.func (.func 92) #[] #[.pointer (some ⟨w.heap.size, 0, none⟩)]) ∧ w.alloc (.cells #[.pointer (some ⟨b, 0, none⟩)] 23) = w' := by
  go_enter Tryd.func67, Tryd.ntmps67
  go_wp2
  go_ret
  exact ⟨rfl, rfl⟩

/-- How many pages are left from a page on. -/
def pageLeft (l : List Bool) (q : Int) : Nat := if q < 0 then 0 else l.length - q.toNat

theorem pageLeft_next (l : List Bool) (p : Nat) (hp : p < l.length) : pageLeft l (firstB l ((p : Int) + 1)) < pageLeft l (p : Int) := by
  unfold pageLeft
  rcases firstB_cases l ((p : Int) + 1) with ⟨h1, h2⟩ | ⟨r, h1, h2, h3, h4, h5⟩
  · rw [h1]
    have e2 : ¬ ((p : Int) < 0) := by omega
    rw [if_pos (by decide), if_neg e2]
    omega
  · rw [h1]
    have e1 : ¬ ((r : Int) < 0) := by omega
    have e2 : ¬ ((p : Int) < 0) := by omega
    rw [if_neg e1, if_neg e2]
    omega

abbrev int1 (p : Nat) : Array Value := #[.int .i64 (p : Nat)]

theorem xall_iter {W : World} {b bw c : Nat} {l : List Bool} {O : Nat → Prop} (hS : SetAt W b bw l) (hT : Tab W) (hc : Blk W c 23 [.pointer (some ⟨b, 0, none⟩)]) (hO : ¬ O b ∧ ¬ O bw ∧ ¬ O c ∧ ¬ O 0) (hv : ∀ k, O k → k < W.heap.size) :
    IterAt Tryd.prog 92 #[.pointer (some ⟨c, 0, none⟩)] int1 (elems l) O W := by
  intro n lp J Jx hJ hJx hY h0
  refine callsIn_of_wp Tryd.func92 rfl trivial ?_ rfl
  simp only [Tryd.ntmps92, List.size_toArray, List.length_cons, List.length_nil, Nat.reduceAdd, Nat.reduceSub, Array.replicate_succ, Array.replicate_zero, List.push_toArray, List.append_toArray, List.nil_append, List.cons_append]
  have hcc : W.cell? ⟨c, 0, none⟩ = some (.pointer (some ⟨b, 0, none⟩)) := hc.cell 0
  have hsm : l.length ≤ 2048 := hS.2.2.1
  have HS := Lib.hid hS
  have HT := Lib.hid hT
  clear hS hT
  gi_wp2_with (gi_at_call 63; refine (callsIn_wide.2 (xfirst HS.out HT.out 0)).mono ?_; rintro e w' ⟨rfl, rfl⟩)
  gi_loopw [3] (fun p wr => ∃ (i : Nat) (O1 : Nat → Prop) (q : Int), p = .int .i64 q ∧ i ≤ (elems l).length ∧ J i O1 wr ∧ Hid (q = nextE l i ∧ SetAt wr b bw l ∧ Tab wr ∧ Blk wr c 23 [.pointer (some ⟨b, 0, none⟩)] ∧ (¬ O1 b ∧ ¬ O1 bw ∧ ¬ O1 c ∧ ¬ O1 0) ∧ ∀ k, O1 k → k < wr.heap.size))
    (fun p wr => pageLeft l (intOf p))
  case atStart =>
    exact ⟨0, O, _, rfl, Nat.zero_le _, h0, first_zero l, HS.out, HT.out, hc, hO, hv⟩
  case round =>
    obtain ⟨i, O1, q, rfl, hi, hJ1, HR⟩ := hrel
    by_cases hlt : i < (elems l).length
    · obtain ⟨pg, hpg, hpl, HE⟩ : ∃ pg : Nat, q = pg ∧ pg < l.length ∧ Hid ((elems l)[i]? = some pg) := by
        have h1 : (elems l)[i]? = some (elems l)[i] := List.getElem?_eq_getElem hlt
        refine ⟨(elems l)[i], ?_, List.mem_range.1 (List.mem_filter.1 (List.getElem_mem hlt)).1, h1⟩
        rw [HR.out.1]; unfold nextE; rw [h1]
      subst hpg
      obtain ⟨fn, tmps, assign, body, hy, hR⟩ := hY i hlt O1 wr hJ1 HR.out.2.2.2.2.2
      have e : (elems l)[i] = pg := by
        have := HE.out
        rw [List.getElem?_eq_getElem hlt] at this
        exact Option.some.inj this
      rw [show int1 (elems l)[i] = #[Value.int .i64 (pg : Nat)] by rw [e]] at hy
      clear e
      have HRR := Lib.hid hR
      clear hR
      gi_wp2
      refine (roundAny HRR.out).mono ?_
      obtain ⟨k0, k1, k2, k3, ⟨k4, k5, k6, k7⟩, k8⟩ := HR.out
      clear k0
      rintro e W' ⟨O', hown, (⟨rfl, hJ'⟩ | ⟨rfl, hJx'⟩)⟩
      · have g1 : SetAt W' b bw l := k1.keep hown.chg k4 k5
        have g2 : Tab W' := k2.keep hown.chg k7
        have g3 : Blk W' c 23 [.pointer (some ⟨b, 0, none⟩)] := k3.keep hown.chg k6
        have g4 : ∀ j, j < wr.heap.size → ¬ O1 j → ¬ O' j := fun j hj hn h => by rcases hown.grow j h with h | h; exact hn h; omega
        have hn : ¬ O' b ∧ ¬ O' bw ∧ ¬ O' c ∧ ¬ O' 0 := ⟨g4 _ k1.lt.1 k4, g4 _ k1.lt.2 k5, g4 _ k3.lt k6, g4 _ k2.pos k7⟩
        have hcc' : W'.cell? ⟨c, 0, none⟩ = some (.pointer (some ⟨b, 0, none⟩)) := g3.cell 0
        have HG := Lib.hid (⟨g1, g2, g3, hn, hown.lt⟩ : _ ∧ _ ∧ _ ∧ _ ∧ _)
        clear g1 g2 g3 g4 hn hown k1 k2 k3 k4 k5 k6 k7 k8
        gi_wp2_with (gi_at_call 63; refine (callsIn_wide.2 (xfirst HG.out.1 HG.out.2.1 ((pg : Int) + 1))).mono ?_; rintro e w' ⟨rfl, rfl⟩)
        have hm := pageLeft_next l pg hpl
        go_roundw
        case rel => exact ⟨i + 1, O', _, rfl, by omega, hJ', first_succ HE.out, HG.out⟩
        case measure => exact hm
      · gi_wp2
        refine bodyPost_ret (results_none rfl _ _ _) rfl ?_
        exact ⟨⟨_, rfl⟩, O', .inr ⟨i + 1, by omega, hJx'⟩⟩
    · have hq : q = -1 := by
        rw [HR.out.1]; unfold nextE; rw [List.getElem?_eq_none (by omega)]
      subst hq
      gi_wp2
      go_end0
      obtain rfl : i = (elems l).length := by omega
      exact ⟨⟨_, rfl⟩, O1, .inl hJ1⟩

end Go.Proofs.YtbebjpdbnpdpfaaDoor
