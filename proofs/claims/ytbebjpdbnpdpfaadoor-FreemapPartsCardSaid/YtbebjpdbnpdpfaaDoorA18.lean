/- The walks of the law of package extent: the pages and the runs of a set, told and gathered; a set with some pages. -/
import Derived.Test.YtbebjpdbnpdpfaaDoorA17
set_option maxRecDepth 100000
set_option linter.unusedVariables false
set_option linter.unusedSimpArgs false
namespace Go.Proofs.YtbebjpdbnpdpfaaDoor
open Go.RowKit

theorem elems_len_le (l : List Bool) : (elems l).length ≤ l.length := elemsTo_len l l.length
theorem runsB_len_le (l : List Bool) : (runsB l).length ≤ l.length := by rw [← runsTo_all]; exact runsTo_len l l.length
theorem elems_count (l : List Bool) : (elems l).length = l.count true := by
  have h : ∀ k, k ≤ l.length → (elemsTo l k).length = (l.take k).count true := by
    intro k
    induction k with
    | zero => intro _; simp [elemsTo]
    | succ k ih =>
      intro hk
      have hk' : k < l.length := by omega
      rw [List.take_succ_eq_append_getElem hk', List.count_append, ← ih (by omega)]
      cases hb : l[k] with
      | true => rw [elemsTo_in (by simp [hk', hb])]; simp
      | false => rw [elemsTo_out (by simp [hk', hb])]; simp
  have := h l.length (Nat.le_refl _)
  rwa [List.take_length] at this

/-- Behind s.All(): the world with the iterator's own cell. -/
def heldAt (w : World) (b : Nat) : World := w.alloc (.cells #[.pointer (some ⟨b, 0, none⟩)] 23)
theorem heldAt_same (w : World) (b : Nat) : Same w (heldAt w b) := Chg.alloc _ _ _
theorem NewInts.of_same {w w1 w' : World} {v : Value} {xs : List Nat} (hs : Same w w1) (h : NewInts w1 w' v xs) : NewInts w w' v xs :=
  ⟨h.1, hs.trans h.2.1, fun g hg => by have := h.2.2 g hg; have := hs.size; omega⟩

theorem pages_of {w : World} {b bw : Nat} {l : List Bool} (hS : SetAt w b bw l) (hT : Tab w) (most : Int) :
    Calls Tryd.prog 66 #[.func (.func 92) #[] #[.pointer (some ⟨w.heap.size, 0, none⟩)], .int .i64 most] (w.alloc (.cells #[.pointer (some ⟨b, 0, none⟩)] 23)) fun e w' => ∃ v, e = .returned v ∧ NewInts w w' v ((elems l).take most.toNat) := by
  have hb := Blk.newA w 23 #[.pointer (some ⟨b, 0, none⟩)]
  have hlt := hS.lt
  have h0 := hT.pos
  refine (xpages (gf := 92) (xs := elems l) (enters_of Tryd.func92 (by kernel_rfl) rfl) (by have := elems_len_le l; have := hS.2.2.1; omega) (fun O1 W1 hs hO hv => ?_) most).mono ?_
  · have hno : ∀ k, k ≤ w.heap.size → ¬ O1 k := fun k hk h => by
      have := hO k h
      simp at this
      omega
    have hw : Same w W1 := (heldAt_same w b).trans hs
    exact xall_iter (hS.same hw) (hT.same hw) (hb.same hs) ⟨hno _ (by omega), hno _ (by omega), hno _ (Nat.le_refl _), hno _ (by omega)⟩ hv
  · rintro e w' ⟨v, rfl, h⟩
    exact ⟨v, rfl, NewInts.of_same (heldAt_same w b) h⟩

theorem runs_of {w : World} {b bw : Nat} {l : List Bool} (hS : SetAt w b bw l) (hT : Tab w) (most : Int) :
    Calls Tryd.prog 49 #[.func (.func 89) #[] #[.pointer (some ⟨w.heap.size, 0, none⟩)], .int .i64 most] (w.alloc (.cells #[.pointer (some ⟨b, 0, none⟩)] 23)) fun e w' => ∃ v1 v2, e = .returned (.tuple #[v1, v2]) ∧ NewInts w w' v1 ((firsts (runsB l)).take most.toNat) ∧ NewInts w w' v2 ((seconds (runsB l)).take most.toNat) := by
  have hb := Blk.newA w 23 #[.pointer (some ⟨b, 0, none⟩)]
  have hlt := hS.lt
  have h0 := hT.pos
  refine (xruns_told (gf := 89) (xs := runsB l) (enters_of Tryd.func89 (by kernel_rfl) rfl) (by have := runsB_len_le l; have := hS.2.2.1; omega) (fun O1 W1 hs hO hv => ?_) most).mono ?_
  · have hno : ∀ k, k ≤ w.heap.size → ¬ O1 k := fun k hk h => by
      have := hO k h
      simp at this
      omega
    have hw : Same w W1 := (heldAt_same w b).trans hs
    exact xruns_iter (hS.same hw) (hT.same hw) (hb.same hs) ⟨hno _ (by omega), hno _ (by omega), hno _ (Nat.le_refl _), hno _ (by omega)⟩ hv
  · rintro e w' ⟨v1, v2, rfl, h, h'⟩
    exact ⟨v1, v2, rfl, NewInts.of_same (heldAt_same w b) h, NewInts.of_same (heldAt_same w b) h'⟩

/-- The set of so many pages with these in it. -/
def addAll (l : List Bool) (xs : List Nat) : List Bool := xs.foldl (fun (l : List Bool) (p : Nat) => addL l (p : Int)) l
theorem addAll_snoc {l : List Bool} {xs : List Nat} {k : Nat} (h : k < xs.length) : addL (addAll l (xs.take k)) ((xs[k] : Nat) : Int) = addAll l (xs.take (k + 1)) := by
  rw [List.take_succ_eq_append_getElem h]; unfold addAll; rw [List.foldl_append]; rfl

theorem xof {w : World} {a : Option Addr} {c : Nat} {xs : List Nat} (n : Int) (h1 : 1 ≤ n) (h2 : n ≤ 2048) (hv : View w a (ints xs)) (hx : xs.length ≤ 4096) :
    Calls Tryd.prog 48 #[.int .i64 n, .slice a xs.length c] w fun e w' => ∃ b bw, e = .returned (.pointer (some ⟨b, 0, none⟩)) ∧ NewSet w w' b bw (addAll (List.replicate n.toNat false) xs) := by
  have HV := Lib.hid hv
  clear hv
  go_enter Tryd.func48, Tryd.ntmps48
  go_wp2_with (go_at_call 10; refine (xnew n _ h1 h2).mono ?_; rintro e w1 ⟨b, bw, rfl, hN⟩; have HN := Lib.hid hN; clear hN)
  go_loopw [22] (fun i wr => ∃ k : Nat, k ≤ xs.length ∧ i = .int .i64 k ∧ Hid (SetAt wr b bw (addAll (List.replicate n.toNat false) (xs.take k)) ∧ Chg (fun j => j = bw) w1 wr)) (fun i _ => xs.length - (intOf i).toNat)
  case atStart => exact ⟨0, Nat.zero_le _, rfl, HN.out.1, Chg.refl _ _⟩
  case round =>
    obtain ⟨k, hk, rfl, HR⟩ := hrel
    by_cases hlt : k < xs.length
    · obtain ⟨b1, o1, rfl, hc1⟩ := (HV.out.same (HN.out.2.1.trans' HR.out.2 (fun j hj e => by have := HN.out.2.2.2; omega))) k _ (ints_get hlt)
      have hi : (k : Int) < xs.length := by omega
      go_wp2_with (go_at_call 14; refine (xadd HR.out.1 _).mono ?_; rintro e w2 ⟨rfl, hA, hC⟩; have HA := Lib.hid hA; have HC := Lib.hid hC; clear hA hC)
      go_roundw
      case rel => exact ⟨k + 1, by omega, by go_num, by rw [← addAll_snoc hlt]; exact HA.out, HR.out.2.trans HC.out⟩
      case measure => simp [intOf]; omega
    · go_wp2
      go_ret
      refine ⟨b, bw, rfl, ?_⟩
      have e : xs.take k = xs := List.take_of_length_le (by omega)
      rw [e] at HR
      exact ⟨HR.out.1, HN.out.2.1.trans' HR.out.2 (fun j hj e => by have := HN.out.2.2.2; omega), HN.out.2.2.1, HN.out.2.2.2⟩

end Go.Proofs.YtbebjpdbnpdpfaaDoor
