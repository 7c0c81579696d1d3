/- The walks of package freemap: pages are taken, let go; the transaction is undone. -/
import Derived.Test.YtbebjpdbnpdpfaaDoorB3
set_option maxRecDepth 100000
set_option linter.unusedVariables false
set_option linter.unusedSimpArgs false
namespace Go.Proofs.YtbebjpdbnpdpfaaDoor
open Go.RowKit

/-- What is told of pages taken in a row; what is free then, what is of its own. -/
def allocP (F : List Bool) (n : Int) : Int := if n < 1 then 0 else if runN F n < 0 then 0 else runN F n
def allocE (F : List Bool) (n : Int) : Int := if n < 1 then 1 else if runN F n < 0 then 6 else 0
def allocF (F : List Bool) (n : Int) : List Bool := if n < 1 then F else if runN F n < 0 then F else dropTo F (runN F n).toNat n.toNat
def allocO (F O : List Bool) (n : Int) : List Bool := if n < 1 then O else if runN F n < 0 then O else addTo O (runN F n).toNat n.toNat

theorem runsAt_bound (l : List Bool) (r : Nat × Nat) (f : Nat) : ∀ q, r ∈ runsFrom l f q → r.1 + r.2 ≤ l.length := by
  induction f with
  | zero => intro q h; simp [runsFrom] at h
  | succ f ih =>
    intro q h
    unfold runsFrom at h
    split at h
    · rename_i hp
      rcases List.mem_cons.1 h with rfl | h
      · have := endB_le (l := l) (p := firstN l q) (by omega)
        have := endB_gt hp (firstN_true hp)
        show firstN l q + (endB l (firstN l q) - firstN l q) ≤ l.length
        omega
      · exact ih _ h
    · simp at h
theorem runN_bound {l : List Bool} {n : Int} (h1 : 1 ≤ n) (h : ¬ runN l n < 0) : runN l n + n ≤ l.length := by
  unfold runN at h ⊢
  rw [if_neg (by omega)] at h ⊢
  split at h
  · rename_i r hr
    have hm := List.mem_of_find?_eq_some hr
    have hp := List.find?_some hr
    have := runsAt_bound l r _ 0 hm
    simp only [decide_eq_true_eq] at hp
    omega
  · omega

section
variable {w : World} {m f fw h hw o ow s sw : Nat} {F H O S : List Bool}
theorem fallocRun (M : MapOf w m f fw h hw o ow s sw F H O S) (hT : Tab w) (n : Int) :
    Calls Tryd.prog 24 #[at0 m, .int .i64 n] w fun e w' => e = .returned (.tuple #[.int .i64 (allocP F n), .int .i64 (allocE F n)]) ∧ MapOf w' m f fw h hw o ow s sw (allocF F n) H (allocO F O n) S ∧ Chg (fun k => k = fw ∨ k = ow) w w' := by
  obtain ⟨c0, c1, c2, c3⟩ := M.cells
  have hsm := M.sf.2.2.1
  by_cases hn : n < 1
  · have hfin : MapOf w m f fw h hw o ow s sw (allocF F n) H (allocO F O n) S := by unfold allocF allocO; rw [if_pos hn, if_pos hn]; exact M
    have he : allocP F n = 0 ∧ allocE F n = 1 := by unfold allocP allocE; rw [if_pos hn, if_pos hn]; exact ⟨rfl, rfl⟩
    have HF := Lib.hid hfin
    have HE := Lib.hid he
    clear hfin he M
    go_enter Tryd.func24, Tryd.ntmps24
    go_wp2_with fail
    go_at_call 74; refine (xmade c0).mono ?_; rintro e w1 ⟨rfl, rfl⟩
    go_wp2_with fail
    go_ret2
    exact ⟨by rw [HE.out.1, HE.out.2]; rfl, HF.out, Chg.refl _ _⟩
  · have hn1 : 1 ≤ n := by omega
    obtain ⟨p, hp⟩ : ∃ p, p = runN F n := ⟨_, rfl⟩
    have HP := Lib.hid hp
    by_cases hneg : p < 0
    · have hfin : MapOf w m f fw h hw o ow s sw (allocF F n) H (allocO F O n) S := by unfold allocF allocO; rw [if_neg hn, if_neg hn, ← hp, if_pos hneg, if_pos hneg]; exact M
      have he : allocP F n = 0 ∧ allocE F n = 6 := by unfold allocP allocE; rw [if_neg hn, if_neg hn, ← hp, if_pos hneg, if_pos hneg]; exact ⟨rfl, rfl⟩
      have HF := Lib.hid hfin
      have HE := Lib.hid he
      have HM := Lib.hid M
      clear hfin he M hp
      go_enter Tryd.func24, Tryd.ntmps24
      go_wp2_with fail
      go_at_call 74; refine (xmade c0).mono ?_; rintro e w1 ⟨rfl, rfl⟩
      go_wp2_with fail
      go_at_call 75; refine (frow HM.out hT n hn1).mono ?_; rintro e w1 ⟨rfl, h1⟩; rw [← HP.out]
      have H1 := Lib.hid h1
      clear h1
      go_wp2_with fail
      go_ret2
      exact ⟨by rw [HE.out.1, HE.out.2]; rfl, HF.out.same H1.out, Same.to H1.out⟩
    · have hb := runN_bound hn1 (by rw [← hp]; exact hneg)
      rw [← hp] at hb
      obtain ⟨q, rfl⟩ : ∃ q : Nat, p = q := ⟨p.toNat, by omega⟩
      obtain ⟨k, rfl⟩ : ∃ k : Nat, n = k := ⟨n.toNat, by omega⟩
      have he : allocP F k = q ∧ allocE F k = 0 ∧ allocF F k = dropTo F q k ∧ allocO F O k = addTo O q k := by unfold allocP allocE allocF allocO; rw [if_neg hn, if_neg hn, if_neg hn, if_neg hn, ← hp, if_neg hneg, if_neg hneg, if_neg hneg, if_neg hneg]; exact ⟨rfl, rfl, rfl, rfl⟩
      have HE := Lib.hid he
      have HM := Lib.hid M
      have hq : q ≤ 4096 := by omega
      have hk : k ≤ 4096 := by omega
      clear he M hp
      go_enter Tryd.func24, Tryd.ntmps24
      go_wp2_with fail
      go_at_call 74; refine (xmade c0).mono ?_; rintro e w1 ⟨rfl, rfl⟩
      go_wp2_with fail
      go_at_call 75; refine (frow HM.out hT k hn1).mono ?_; rintro e w1 ⟨rfl, h1⟩; rw [← HP.out]
      have H1 := Lib.hid h1
      clear h1
      go_wp2_with fail
      go_at_call 76; refine (ftake (HM.out.same H1.out) q k hq hk).mono ?_; rintro e w2 ⟨⟨v, rfl⟩, hM2, hC2⟩
      have H2 := Lib.hid (⟨hM2, hC2⟩ : _ ∧ _)
      clear hM2 hC2
      go_wp2_with fail
      go_ret2
      refine ⟨by rw [HE.out.1, HE.out.2.1]; rfl, ?_, (Same.to H1.out).trans H2.out.2⟩
      rw [HE.out.2.2.1, HE.out.2.2.2]
      exact H2.out.1
theorem falloc (M : MapOf w m f fw h hw o ow s sw F H O S) (hT : Tab w) :
    Calls Tryd.prog 22 #[at0 m] w fun e w' => e = .returned (.tuple #[.int .i64 (allocP F 1), .int .i64 (allocE F 1)]) ∧ MapOf w' m f fw h hw o ow s sw (allocF F 1) H (allocO F O 1) S ∧ Chg (fun k => k = fw ∨ k = ow) w w' := by
  have HC := Lib.hid (fallocRun M hT 1)
  clear M hT
  go_enter Tryd.func22, Tryd.ntmps22
  go_wp2_with fail
  go_at_call 24; refine HC.out.mono ?_; rintro e w1 ⟨rfl, h1, h2⟩
  have H1 := Lib.hid (⟨h1, h2⟩ : _ ∧ _)
  clear h1 h2
  go_wp2_with fail
  go_ret2
  exact ⟨rfl, H1.out⟩

/-- What is told of a page let go; what is free then, held, of its own. -/
def freeE (F H : List Bool) (p : Int) : Int := if hasM F H p then 0 else 4
def freeF (F H O : List Bool) (p : Int) : List Bool := if hasM F H p && hasB O p then addL F p else F
def freeH (F H O : List Bool) (p : Int) : List Bool := if hasM F H p && !hasB O p then addL H p else H
def freeO (F H O : List Bool) (p : Int) : List Bool := if hasM F H p then dropL O p else O

theorem hasB_get {l : List Bool} {p : Int} (h0 : 0 ≤ p) : hasB l p = l.getD p.toNat false := by unfold hasB; simp [h0]

theorem ffree (M : MapOf w m f fw h hw o ow s sw F H O S) (hH : H.length = F.length) (hO : O.length = F.length) (p : Int) :
    Calls Tryd.prog 25 #[at0 m, .int .i64 p] w fun e w' => e = .returned (.int .i64 (freeE F H p)) ∧ MapOf w' m f fw h hw o ow s sw (freeF F H O p) (freeH F H O p) (freeO F H O p) S ∧ Chg (fun k => k = fw ∨ k = hw ∨ k = ow) w w' := by
  obtain ⟨c0, c1, c2, c3⟩ := M.cells
  have HM := Lib.hid M
  clear M
  cases hm : hasM F H p with
  | false =>
    have he : freeE F H p = 4 ∧ freeF F H O p = F ∧ freeH F H O p = H ∧ freeO F H O p = O := by unfold freeE freeF freeH freeO; rw [hm]; exact ⟨rfl, rfl, rfl, rfl⟩
    have HE := Lib.hid he
    have HB := Lib.hid hm
    clear hm he
    go_enter Tryd.func25, Tryd.ntmps25
    go_wp2_with fail
    go_at_call 74; refine (xmade c0).mono ?_; rintro e w1 ⟨rfl, rfl⟩
    go_wp2_with fail
    go_at_call 42; refine (fhas HM.out p).mono ?_; rintro e w1 ⟨rfl, k, rfl⟩; rw [HB.out]
    go_wp2_with fail
    go_ret
    refine ⟨ret_int (by rw [HE.out.1]), ?_, Chg.drewN _ _ _⟩
    rw [HE.out.2.1, HE.out.2.2.1, HE.out.2.2.2]
    exact HM.out.same (Chg.drewN _ _ _)
  | true =>
    have hr : 0 ≤ p ∧ p < F.length ∧ hasB F p = false ∧ hasB H p = false := by
      unfold hasM at hm
      simp only [Bool.and_eq_true, decide_eq_true_eq, Bool.not_eq_true'] at hm
      exact ⟨hm.1.1.1, hm.1.1.2, hm.1.2, hm.2⟩
    obtain ⟨h0, h1, hF, hHf⟩ := hr
    cases ho : hasB O p with
    | true =>
      have he : freeE F H p = 0 ∧ freeF F H O p = addL F p ∧ freeH F H O p = H ∧ freeO F H O p = dropL O p := by unfold freeE freeF freeH freeO; rw [hm, ho]; exact ⟨rfl, rfl, rfl, rfl⟩
      have hd : dropE O p = 0 := by unfold dropE; rw [if_pos (by omega), ← hasB_get h0, ho]; rfl
      have ha : addE F p = 0 := by unfold addE; rw [if_pos (by omega), ← hasB_get h0, hF]; rfl
      have HE := Lib.hid he
      have HB := Lib.hid hm
      have HD := Lib.hid hd
      have HA := Lib.hid ha
      clear hm he hd ha hF hHf ho
      go_enter Tryd.func25, Tryd.ntmps25
      go_wp2_with fail
      go_at_call 74; refine (xmade c0).mono ?_; rintro e w1 ⟨rfl, rfl⟩
      go_wp2_with fail
      go_at_call 42; refine (fhas HM.out p).mono ?_; rintro e w1 ⟨rfl, k, rfl⟩; rw [HB.out]
      have HMk := Lib.hid (HM.out.same (Chg.drewN _ w k))
      go_wp2_with fail
      go_at_call 15; refine (xdrop HMk.out.so p).mono ?_; rintro e w2 ⟨rfl, h2, h3⟩; rw [HD.out]
      have M2 := HMk.out.setO h2 h3
      have H2 := Lib.hid (⟨M2, h3⟩ : _ ∧ _)
      obtain ⟨d0, d1, d2, d3⟩ := M2.cells
      clear h2 h3 M2
      go_wp2_with fail
      go_at_call 14; refine (xadd H2.out.1.sf p).mono ?_; rintro e w3 ⟨rfl, h2, h3⟩; rw [HA.out]
      have H3 := Lib.hid (⟨H2.out.1.setF h2 h3, h3⟩ : _ ∧ _)
      clear h2 h3 d0 d1 d2 d3
      go_wp2_with fail
      go_ret
      refine ⟨ret_int (by rw [HE.out.1]), ?_, ((Chg.drewN _ w k).trans' H2.out.2 (fun j _ e => .inr (.inr e))).trans' H3.out.2 (fun j _ e => .inl e)⟩
      rw [HE.out.2.1, HE.out.2.2.1, HE.out.2.2.2]
      exact H3.out.1
    | false =>
      have hO' : dropL O p = O := by unfold dropL; rw [if_pos h0]; exact set_same (.inl (by rw [hasB_get h0] at ho; rw [List.getD_eq_getElem?_getD, List.getElem?_eq_getElem (show p.toNat < O.length by omega)] at ho ⊢; exact ho))
      have he : freeE F H p = 0 ∧ freeF F H O p = F ∧ freeH F H O p = addL H p ∧ freeO F H O p = O := by unfold freeE freeF freeH freeO; rw [hm, ho, hO']; exact ⟨rfl, rfl, rfl, rfl⟩
      have hd : dropE O p = 4 := by unfold dropE; rw [if_pos (by omega), ← hasB_get h0, ho]; rfl
      have ha : addE H p = 0 := by unfold addE; rw [if_pos (by omega), ← hasB_get h0, hHf]; rfl
      have HE := Lib.hid he
      have HB := Lib.hid hm
      have HD := Lib.hid hd
      have HA := Lib.hid ha
      have HO' := Lib.hid hO'
      clear hm he hd ha hF hHf ho hO'
      go_enter Tryd.func25, Tryd.ntmps25
      go_wp2_with fail
      go_at_call 74; refine (xmade c0).mono ?_; rintro e w1 ⟨rfl, rfl⟩
      go_wp2_with fail
      go_at_call 42; refine (fhas HM.out p).mono ?_; rintro e w1 ⟨rfl, k, rfl⟩; rw [HB.out]
      have HMk := Lib.hid (HM.out.same (Chg.drewN _ w k))
      go_wp2_with fail
      go_at_call 15; refine (xdrop HMk.out.so p).mono ?_; rintro e w2 ⟨rfl, h2, h3⟩; rw [HD.out]
      have M2 := HMk.out.setO h2 h3
      rw [HO'.out] at M2
      have H2 := Lib.hid (⟨M2, h3⟩ : _ ∧ _)
      obtain ⟨d0, d1, d2, d3⟩ := M2.cells
      clear h2 h3 M2
      go_wp2_with fail
      go_at_call 14; refine (xadd H2.out.1.sh p).mono ?_; rintro e w3 ⟨rfl, h2, h3⟩; rw [HA.out]
      have H3 := Lib.hid (⟨H2.out.1.setH h2 h3, h3⟩ : _ ∧ _)
      clear h2 h3 d0 d1 d2 d3
      go_wp2_with fail
      go_ret
      refine ⟨ret_int (by rw [HE.out.1]), ?_, ((Chg.drewN _ w k).trans' H2.out.2 (fun j _ e => .inr (.inr e))).trans' H3.out.2 (fun j _ e => .inr (.inl e))⟩
      rw [HE.out.2.1, HE.out.2.2.1, HE.out.2.2.2]
      exact H3.out.1

/-- The transaction undone: what was free is free. -/
theorem fabort (M : MapOf w m f fw h hw o ow s sw F H O S) :
    Calls Tryd.prog 28 #[at0 m] w fun e w' => e = .returned (.int .i64 0) ∧ ∃ h' hw' o' ow' s' sw', MapOf w' m s sw h' hw' o' ow' s' sw' S (List.replicate S.length false) (List.replicate S.length false) S ∧ Chg (fun k => k = m) w w' ∧ w.heap.size ≤ h' ∧ w.heap.size ≤ hw' ∧ w.heap.size ≤ o' ∧ w.heap.size ≤ ow' ∧ w.heap.size ≤ s' ∧ w.heap.size ≤ sw' := by
  obtain ⟨c0, c1, c2, c3⟩ := M.cells
  have f0 := M.blk.frozen 0
  have hb := M.blk.set 0 (at0 s)
  have hms : m ≠ s ∧ m ≠ sw := by
    obtain ⟨_, _, x1, x2⟩ := M.ss.blks
    exact ⟨M.blk.ne x1 (by decide), M.blk.ne x2 (by decide)⟩
  have HB := Lib.hid (show Blk (w.setCell ⟨m, 0, none⟩ (at0 s)) m 77 [at0 s, at0 h, at0 o, at0 s] from hb)
  have HS := Lib.hid (M.ss.keep (Chg.setCell (S := fun k => k = m) w (p := ⟨m, 0, none⟩) rfl (at0 s)) (Ne.symm hms.1) (Ne.symm hms.2))
  clear M hb hms
  go_enter Tryd.func28, Tryd.ntmps28
  go_wp2_with fail
  go_at_call 74; refine (xmade c0).mono ?_; rintro e w1 ⟨rfl, rfl⟩
  go_wp2_with fail
  go_at_call 72; refine (fsettle HB.out HS.out).mono ?_; rintro e w2 ⟨⟨v, rfl⟩, h', hw', o', ow', s', sw', h1, h2, h3⟩
  have hsz : (w.setCell ⟨m, 0, none⟩ (at0 s)).heap.size = w.heap.size := by simp [World.setCell]
  rw [hsz] at h3
  have H1 := Lib.hid (⟨h1, h2, h3⟩ : _ ∧ _ ∧ _)
  clear h1 h2 h3 hsz
  go_wp2_with fail
  go_ret
  exact ⟨rfl, h', hw', o', ow', s', sw', H1.out.1, (Chg.setCell (S := fun k => k = m) w (p := ⟨m, 0, none⟩) rfl (at0 s)).trans H1.out.2.1, H1.out.2.2⟩
end

end Go.Proofs.YtbebjpdbnpdpfaaDoor
