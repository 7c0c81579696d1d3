/- The walks of package freemap: a list of pages; a map is opened. -/
import Derived.Test.YtbebjpdbnpdpfaaDoorB7
set_option maxRecDepth 100000
set_option linter.unusedVariables false
set_option linter.unusedSimpArgs false
namespace Go.Proofs.YtbebjpdbnpdpfaaDoor
open Go.RowKit

/-- Rising, above z and below n. -/
def okList (n : Int) : Int → List Int → Bool
  | _, [] => true
  | z, p :: t => decide (z < p) && decide (p < n) && okList n p t

theorem fmay (n : Int) (w : World) : Calls Tryd.prog 69 #[.int .i64 n] w fun e w' => e = .returned (.bool (decide (8 ≤ n ∧ n ≤ 2048))) ∧ w = w' := by
  by_cases h : 8 ≤ n
  · go_enter Tryd.func69, Tryd.ntmps69
    go_wp2
    go_ret
    exact ⟨ret_bool (by simp <;> omega), rfl⟩
  · have h' : decide (8 ≤ n) = false := by simp; omega
    go_enter Tryd.func69, Tryd.ntmps69
    go_wp2
    go_ret
    exact ⟨ret_bool (by simp <;> omega), rfl⟩

theorem flist {w : World} {a : Option Addr} {xs : List Int} {c : Nat} (h : View w a (zints xs)) (hx : xs.length ≤ 100000) (n : Int) :
    Calls Tryd.prog 70 #[.int .i64 n, .slice a xs.length c] w fun e w' => e = .returned (.bool (okList n (-1) xs)) ∧ w = w' := by
  have H := Lib.hid h
  clear h
  go_enter Tryd.func70, Tryd.ntmps70
  go_wp2_with fail
  go_loop [5, 10] (fun l i => ∃ (k : Nat) (z : Int), k ≤ xs.length ∧ i = .int .i64 k ∧ l = .int .i64 z ∧ Hid (okList n (-1) xs = okList n z (xs.drop k))) (fun _ i => xs.length - (intOf i).toNat)
  case atStart => exact ⟨0, -1, Nat.zero_le _, rfl, rfl, rfl⟩
  case round =>
    obtain ⟨k, z, hk, rfl, rfl, HR⟩ := hrel
    by_cases hlt : k < xs.length
    · obtain ⟨b1, o1, rfl, hc1⟩ := H.out k _ (zints_get hlt)
      have hi : (k : Int) < xs.length := by omega
      have hstep : okList n (-1) xs = (decide (z < xs[k]) && decide (xs[k] < n) && okList n xs[k] (xs.drop (k + 1))) := by
        rw [HR.out, List.drop_eq_getElem_cons hlt, okList]
      obtain ⟨x, hx1⟩ : ∃ x, x = xs[k] := ⟨_, rfl⟩
      rw [← hx1] at hc1 hstep
      have HS := Lib.hid hstep
      clear hstep hx1
      by_cases h1 : x ≤ z
      · go_wp2_with fail
        go_ret
        exact ⟨ret_bool (by rw [HS.out]; simp; omega), rfl⟩
      · have h1' : decide (x ≤ z) = false := by simp; omega
        by_cases h2 : n ≤ x
        · go_wp2_with fail
          go_ret
          exact ⟨ret_bool (by rw [HS.out]; simp; omega), rfl⟩
        · have h2' : decide (n ≤ x) = false := by simp; omega
          go_wp2_with fail
          go_round
          case rel => exact ⟨k + 1, x, by omega, by go_num, rfl, Lib.hid (by rw [HS.out, decide_eq_true (show z < x by omega), decide_eq_true (show x < n by omega)]; rfl)⟩
          case measure => simp [intOf]; omega
    · go_wp2_with fail
      go_ret
      exact ⟨ret_bool (by rw [HR.out, List.drop_eq_nil_iff.2 (by omega)]; rfl), rfl⟩

theorem okList_nat {n z : Int} {xs : List Int} (hz : -1 ≤ z) (h : okList n z xs = true) : ∃ ns : List Nat, xs = natsZ ns := by
  induction xs generalizing z with
  | nil => exact ⟨[], rfl⟩
  | cons p t ih =>
    unfold okList at h
    simp only [Bool.and_eq_true, decide_eq_true_eq] at h
    obtain ⟨ns, rfl⟩ := ih (by omega) h.2
    exact ⟨p.toNat :: ns, by simp only [natsZ, List.map_cons]; congr 1; omega⟩

theorem fopen_bad {w : World} {a : Option Addr} {xs : List Int} {c : Nat} (h : View w a (zints xs)) (hx : xs.length ≤ 100000) (n : Int) (hb : ¬ (8 ≤ n ∧ n ≤ 2048) ∨ okList n (-1) xs = false) :
    Calls Tryd.prog 20 #[.int .i64 n, .slice a xs.length c] w fun e w' => e = .returned (.tuple #[.pointer none, .int .i64 1]) ∧ w = w' := by
  have HM := Lib.hid (fmay n w)
  have HL := Lib.hid (flist (c := c) h hx n)
  clear h
  by_cases hm : 8 ≤ n ∧ n ≤ 2048
  · have hl : okList n (-1) xs = false := by rcases hb with hb | hb; exact absurd hm hb; exact hb
    rw [hl] at HL
    have hd : decide (8 ≤ n ∧ n ≤ 2048) = true := by simp; exact hm
    rw [hd] at HM
    clear hb hl hd hm
    go_enter Tryd.func20, Tryd.ntmps20
    go_wp2_with fail
    go_at_call 69; refine HM.out.mono ?_; rintro e w1 ⟨rfl, rfl⟩
    go_wp2_with fail
    go_at_call 70; refine HL.out.mono ?_; rintro e w1 ⟨rfl, rfl⟩
    go_wp2_with fail
    go_ret2
    exact ⟨rfl, rfl⟩
  · have hd : decide (8 ≤ n ∧ n ≤ 2048) = false := by simp only [decide_eq_false_iff_not]; exact hm
    rw [hd] at HM
    clear hb hd hm
    go_enter Tryd.func20, Tryd.ntmps20
    go_wp2_with fail
    go_at_call 69; refine HM.out.mono ?_; rintro e w1 ⟨rfl, rfl⟩
    go_wp2_with fail
    go_ret2
    exact ⟨rfl, rfl⟩

theorem addAll_len (xs : List Nat) : ∀ l : List Bool, (addAll l xs).length = l.length := by
  induction xs with
  | nil => intro l; rfl
  | cons x xs ih => intro l; unfold addAll at ih ⊢; rw [List.foldl_cons, ih, addL_len]
/-- The pages of the list, of so many. -/
def listB (n : Nat) (ns : List Nat) : List Bool := addAll (List.replicate n false) ns

theorem fopen {w : World} {a : Option Addr} {ns : List Nat} {c : Nat} (h : View w a (ints ns)) (hx : ns.length ≤ 100000) (n : Nat) (h8 : 8 ≤ n) (h20 : n ≤ 2048) (hok : okList n (-1) (natsZ ns) = true) :
    Calls Tryd.prog 20 #[.int .i64 n, .slice a ns.length c] w fun e w' => ∃ m f fw h hw o ow s sw, e = .returned (.tuple #[at0 m, .int .i64 0]) ∧ MapOf w' m f fw h hw o ow s sw (notB (listB n ns)) (List.replicate n false) (List.replicate n false) (notB (listB n ns)) ∧
      Same w w' ∧ ∀ k, own9 m f fw h hw o ow s sw k → w.heap.size ≤ k := by
  have HM := fmay n w
  have hd : decide ((8 : Int) ≤ (n : Int) ∧ (n : Int) ≤ 2048) = true := by simp; omega
  rw [hd] at HM
  have HL := flist (c := c) (n := n) (xs := natsZ ns) (by rw [← ints_z]; exact h) (by rw [natsZ_len]; exact hx)
  rw [hok, natsZ_len] at HL
  replace HM := Lib.hid HM
  replace HL := Lib.hid HL
  have HV := Lib.hid h
  clear h hd hok
  have h1 : (1 : Int) ≤ n := by omega
  have h2 : (n : Int) ≤ 2048 := by omega
  go_enter Tryd.func20, Tryd.ntmps20
  go_wp2_with fail
  go_at_call 69; refine HM.out.mono ?_; rintro e w1 ⟨rfl, rfl⟩
  go_wp2_with fail
  go_at_call 70; refine HL.out.mono ?_; rintro e w1 ⟨rfl, rfl⟩
  go_wp2_with fail
  go_at_call 10; refine (xnew _ _ h1 h2).mono ?_; rintro e w1 ⟨b, bw, rfl, hN⟩
  have HN := Lib.hid hN
  clear hN
  go_wp2_with fail
  go_loopw [30] (fun i wr => ∃ k : Nat, k ≤ ns.length ∧ i = .int .i64 k ∧ Hid (SetAt wr b bw (addAll (List.replicate n false) (ns.take k)) ∧ Chg (fun j => j = bw) w1 wr)) (fun i _ => ns.length - (intOf i).toNat)
  case atStart => exact ⟨0, Nat.zero_le _, rfl, by have := HN.out.1; rwa [Int.toNat_natCast] at this, Chg.refl _ _⟩
  case round =>
    obtain ⟨k, hk, rfl, HR⟩ := hrel
    have hSr : Same w wr := HN.out.2.1.trans' HR.out.2 (fun j hj e => by have := HN.out.2.2.2; omega)
    by_cases hlt : k < ns.length
    · obtain ⟨b1, o1, rfl, hc1⟩ := (HV.out.same hSr) k _ (ints_get hlt)
      have hi : (k : Int) < ns.length := by omega
      clear hSr
      go_wp2_with fail
      go_at_call 14; refine (xadd HR.out.1 _).mono ?_; rintro e w2 ⟨rfl, hA, hC⟩; have HA := Lib.hid hA; have HC := Lib.hid hC; clear hA hC
      go_wp2_with fail
      go_roundw
      case rel => exact ⟨k + 1, by omega, by go_num, by rw [← addAll_snoc hlt]; exact HA.out, HR.out.2.trans HC.out⟩
      case measure => simp [intOf]; omega
    · have HSr := Lib.hid hSr
      clear hSr
      have hR := HR.out.1
      rw [List.take_of_length_le (by omega)] at hR
      have HR1 := Lib.hid hR
      clear hR
      go_wp2_with fail
      go_at_call 71; refine (xnot HR1.out).mono ?_; rintro e w2 ⟨f, fw, rfl, hN2⟩
      have HN2 := Lib.hid hN2
      clear hN2
      go_wp2_with fail
      have hlen : (notB (listB n ns)).length = n := by unfold listB notB; rw [List.length_map, addAll_len, List.length_replicate]
      go_at_call 72; refine (fsettle (Blk.newA w2 77 #[at0 f, .pointer none, .pointer none, .pointer none]) (HN2.out.1.same (Chg.alloc _ _ _))).mono ?_; rintro e w3 ⟨⟨v, rfl⟩, h', hw', o', ow', s', sw', hM3, hC3, l1, l2, l3, l4, l5, l6⟩
      have HX := Lib.hid (⟨hM3, hC3, l1, l2, l3, l4, l5, l6⟩ : _ ∧ _ ∧ _ ∧ _ ∧ _ ∧ _ ∧ _ ∧ _)
      have HLN := Lib.hid hlen
      clear hM3 hC3 l1 l2 l3 l4 l5 l6 hlen
      go_wp2_with fail
      go_ret2
      obtain ⟨hM3, hC3, l1, l2, l3, l4, l5, l6⟩ := HX.out
      have z1 := HSr.out.size
      have z2 := HN2.out.2.1.size
      have z3 := HN2.out.2.2
      simp only [World.size_alloc] at l1 l2 l3 l4 l5 l6
      refine ⟨w2.heap.size, f, fw, h', hw', o', ow', s', sw', rfl, ?_, ?_, ?_⟩
      · have : MapOf w3 w2.heap.size f fw h' hw' o' ow' s' sw' (notB (listB n ns)) (List.replicate (notB (listB n ns)).length false) (List.replicate (notB (listB n ns)).length false) (notB (listB n ns)) := hM3
        rwa [HLN.out] at this
      · exact ((HSr.out.trans HN2.out.2.1).trans (Chg.alloc _ _ _)).trans' hC3 (fun j hj e => by omega)
      · rintro q (e | e | e | e | e | e | e | e | e) <;> omega

end Go.Proofs.YtbebjpdbnpdpfaaDoor
