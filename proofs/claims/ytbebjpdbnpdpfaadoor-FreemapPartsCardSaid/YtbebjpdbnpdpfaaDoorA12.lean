/- The walks of the reference of layer 7: a set as a row of bools. -/
import Derived.Test.YtbebjpdbnpdpfaaDoorA11
set_option maxRecDepth 100000
set_option linter.unusedVariables false
set_option linter.unusedSimpArgs false
namespace Go.Proofs.YtbebjpdbnpdpfaaDoor
open Go.RowKit

theorem info4 : (Tryd.prog.info? 4).map (fun i => (i.zero, i.size, i.bytes)) = some (some (.bool false), 1, 1) := by kernel_rfl
def bools (l : List Bool) : List Value := l.map Value.bool
theorem bools_len (l : List Bool) : (bools l).length = l.length := by simp [bools]
theorem bools_get {l : List Bool} (sp : List Value) {i : Nat} (h : i < l.length) : (bools l ++ sp)[i]? = some (.bool l[i]) := by
  rw [List.getElem?_append_left (by simpa [bools] using h)]
  simp [bools, h]

/-- The reference's set in block r, its bools in block rw. -/
def RefAt (w : World) (r rw : Nat) (l : List Bool) : Prop :=
  r ≠ rw ∧ 0 < l.length ∧ l.length ≤ 2048 ∧ ∃ sp cap, Blk w r 84 [.slice (some ⟨rw, 0, none⟩) l.length cap] ∧ Blk w rw 4 (bools l ++ sp)

theorem RefAt.keep {S : Nat → Prop} {w w' : World} {b bw : Nat} {l : List Bool} (h : RefAt w b bw l) (hc : Chg S w w') (hb : ¬ S b) (hbw : ¬ S bw) : RefAt w' b bw l := by
  obtain ⟨h0, h1, h2, sp, cap, h4, h5⟩ := h
  exact ⟨h0, h1, h2, sp, cap, h4.keep hc hb, h5.keep hc hbw⟩
theorem RefAt.same {w w' : World} {b bw : Nat} {l : List Bool} (h : RefAt w b bw l) (hc : Same w w') : RefAt w' b bw l := h.keep hc id id
theorem RefAt.lt {w : World} {b bw : Nat} {l : List Bool} (h : RefAt w b bw l) : b < w.heap.size ∧ bw < w.heap.size := by
  obtain ⟨h0, h1, h2, sp, cap, h4, h5⟩ := h
  exact ⟨h4.lt, h5.lt⟩

def NewRef (w w' : World) (b bw : Nat) (l : List Bool) : Prop := RefAt w' b bw l ∧ Same w w' ∧ w.heap.size ≤ b ∧ w.heap.size ≤ bw

theorem rnew_bad (n : Int) (w : World) (h : n < 1 ∨ 2048 < n) : Calls Tryd.prog 11 #[.int .i64 n] w fun e w' => e = .returned (.tuple #[.pointer none, .int .i64 1]) ∧ w = w' := by
  by_cases h1 : n < 1
  all_goals
    go_enter Tryd.func11, Tryd.ntmps11
    go_wp2
    go_ret2
    exact ⟨rfl, rfl⟩

theorem rnew (n : Int) (w : World) (h1 : 1 ≤ n) (h2 : n ≤ 2048) : Calls Tryd.prog 11 #[.int .i64 n] w fun e w' => ∃ b bw, e = .returned (.tuple #[.pointer (some ⟨b, 0, none⟩), .int .i64 0]) ∧ NewRef w w' b bw (List.replicate n.toNat false) := by
  obtain ⟨i0, hi, hz0, hz1, hz2⟩ := info_parts info4
  obtain ⟨m, rfl⟩ : ∃ m : Nat, n = (m : Int) := ⟨n.toNat, by omega⟩
  have hmk := fun wx => run_make_row (P := Tryd.prog) wx 82 4 i0 (.bool false) Tryd.underlying82 hi hz0 hz1 rfl .i64 .i64 _ m rfl (by rw [hz2]; omega) (by unfold maxLen; omega)
  go_enter Tryd.func11, Tryd.ntmps11
  go_wp2
  go_ret2
  refine ⟨w.heap.size + 1, w.heap.size, rfl, ⟨by omega, by simp; omega, by simp; omega, [], m, ?_, ?_⟩, (Chg.alloc _ _ _).trans (Chg.alloc _ _ _), by omega, by omega⟩
  · have := Blk.newA (w.alloc (Obj.cells (Array.replicate m (Value.bool false)) 4)) 84 #[Value.slice (some { block := w.heap.size, off := 0 }) m m]
    simpa using this
  · have := (Blk.newA w 4 (Array.replicate m (Value.bool false))).alloc (Obj.cells #[Value.slice (some { block := w.heap.size, off := 0 }) m m] 84)
    simpa [bools] using this

theorem ris {w : World} {r rw : Nat} {l : List Bool} (h : RefAt w r rw l) (p : Int) :
    Calls Tryd.prog 59 #[.pointer (some ⟨r, 0, none⟩), .int .i64 p] w fun e w' => e = .returned (.bool (decide (0 ≤ p ∧ p < l.length))) ∧ w = w' := by
  obtain ⟨hne, hpos, hsm, sp, cap, hst, hwd⟩ := h
  have hc : w.cell? ⟨r, 0, none⟩ = some (.slice (some ⟨rw, 0, none⟩) l.length cap) := hst.cell 0
  clear hst hwd
  by_cases h0 : 0 ≤ p
  · go_enter Tryd.func59, Tryd.ntmps59
    go_wp2
    go_ret
    exact ⟨ret_bool (by simp [h0]), rfl⟩
  · have hd : decide (0 ≤ p) = false := by simp; omega
    go_enter Tryd.func59, Tryd.ntmps59
    go_wp2
    go_ret
    exact ⟨ret_bool (by simp <;> omega), rfl⟩

theorem rhas {w : World} {r rw : Nat} {l : List Bool} (h : RefAt w r rw l) (p : Int) :
    Calls Tryd.prog 62 #[.pointer (some ⟨r, 0, none⟩), .int .i64 p] w fun e w' => e = .returned (.bool (hasB l p)) ∧ w = w' := by
  have H := Lib.hid h
  obtain ⟨hne, hpos, hsm, sp, cap, hst, hwd⟩ := h
  have hc : w.cell? ⟨r, 0, none⟩ = some (.slice (some ⟨rw, 0, none⟩) l.length cap) := hst.cell 0
  by_cases h0 : 0 ≤ p ∧ p < l.length
  · obtain ⟨n, rfl⟩ := Int.eq_ofNat_of_zero_le h0.1
    have hn : n < l.length := by omega
    have hx : w.cell? ⟨rw, n, none⟩ = some (.bool l[n]) := (hwd.cell _).trans (bools_get sp hn)
    have hhas : hasB l (n : Int) = l[n] := by simp [hasB, hn]
    have hi := (ris H.out (n : Int))
    have hdd : decide ((0 : Int) ≤ n ∧ (n : Int) < l.length) = true := by simp; omega
    rw [hdd] at hi
    have HI := Lib.hid hi
    have HH := Lib.hid hhas
    clear hst hwd hi hdd hhas h0
    have hn' : (n : Int) < l.length := by omega
    go_enter Tryd.func62, Tryd.ntmps62
    go_wp2_with (go_at_call 59; refine HI.out.mono ?_; rintro e w' ⟨rfl, rfl⟩)
    go_ret
    exact ⟨ret_bool HH.out.symm, rfl⟩
  · have hhas : hasB l p = false := by
      unfold hasB
      by_cases h1 : 0 ≤ p
      · rw [List.getD_eq_getElem?_getD, List.getElem?_eq_none (by omega)]; simp
      · simp [h1]
    have hi := (ris H.out p)
    have hdd : decide ((0 : Int) ≤ p ∧ p < l.length) = false := by simp only [decide_eq_false_iff_not]; exact h0
    rw [hdd] at hi
    have HI := Lib.hid hi
    have HH := Lib.hid hhas
    clear hst hwd hi hdd hhas h0
    go_enter Tryd.func62, Tryd.ntmps62
    go_wp2_with (go_at_call 59; refine HI.out.mono ?_; rintro e w' ⟨rfl, rfl⟩)
    go_ret
    exact ⟨ret_bool HH.out.symm, rfl⟩

/-- What Add answers, and what is in it then. -/
def addE (l : List Bool) (p : Int) : Int := if 0 ≤ p ∧ p < l.length then (if l.getD p.toNat false then 70 else 0) else 1
def addL (l : List Bool) (p : Int) : List Bool := if 0 ≤ p then l.set p.toNat true else l
def dropE (l : List Bool) (p : Int) : Int := if 0 ≤ p ∧ p < l.length then (if l.getD p.toNat false then 0 else 4) else 1
def dropL (l : List Bool) (p : Int) : List Bool := if 0 ≤ p then l.set p.toNat false else l

theorem set_same {l : List Bool} {p : Nat} {v : Bool} (h : l.getD p (!v) = v ∨ l.length ≤ p) : l.set p v = l := by
  apply List.ext_getElem
  · simp
  · intro i h1 h2
    rw [List.getElem_set]
    split
    · rename_i e
      subst e
      rcases h with h | h
      · rw [List.getD_eq_getElem?_getD, List.getElem?_eq_getElem h2] at h
        exact h.symm
      · omega
    · rfl

theorem radd {w : World} {r rw : Nat} {l : List Bool} (h : RefAt w r rw l) (p : Int) :
    Calls Tryd.prog 17 #[.pointer (some ⟨r, 0, none⟩), .int .i64 p] w fun e w' => e = .returned (.int .i64 (addE l p)) ∧ RefAt w' r rw (addL l p) ∧ Chg (fun k => k = rw) w w' := by
  have H := Lib.hid h
  obtain ⟨hne, hpos, hsm, sp, cap, hst, hwd⟩ := h
  have hc : w.cell? ⟨r, 0, none⟩ = some (.slice (some ⟨rw, 0, none⟩) l.length cap) := hst.cell 0
  by_cases h0 : 0 ≤ p ∧ p < l.length
  · obtain ⟨n, rfl⟩ := Int.eq_ofNat_of_zero_le h0.1
    have hn : n < l.length := by omega
    have hx : w.cell? ⟨rw, n, none⟩ = some (.bool l[n]) := (hwd.cell _).trans (bools_get sp hn)
    have hf : w.frozen? ⟨rw, n, none⟩ = false := hwd.frozen _
    have hi := (ris H.out (n : Int))
    have hdd : decide ((0 : Int) ≤ n ∧ (n : Int) < l.length) = true := by simp; omega
    rw [hdd] at hi
    have HI := Lib.hid hi
    have hfin : RefAt (w.setCell ⟨rw, n, none⟩ (.bool true)) r rw (l.set n true) := by
      refine ⟨hne, by simpa using hpos, by simpa using hsm, sp, cap, ?_, ?_⟩
      · simpa using hst.set_ne (p := ⟨rw, n, none⟩) (fun e => hne e.symm) (.bool true)
      · have := hwd.set n (.bool true)
        rw [List.set_append_left _ _ (by simpa [bools] using hn)] at this
        simpa [bools, List.map_set] using this
    have HF := Lib.hid hfin
    have hn' : (n : Int) < l.length := by omega
    have hE : addE l (n : Int) = if l[n] then 70 else 0 := by simp [addE, hn]
    have hL : addL l (n : Int) = l.set n true := by simp [addL]
    have HE := Lib.hid hE
    have HL := Lib.hid hL
    clear hst hwd hi hdd h0 hfin hE hL
    cases hb : l[n] with
    | true =>
      rw [hb] at hx
      have HB := Lib.hid hb
      clear hb
      go_enter Tryd.func17, Tryd.ntmps17
      go_wp2_with (go_at_call 59; refine HI.out.mono ?_; rintro e w' ⟨rfl, rfl⟩)
      go_ret
      refine ⟨ret_int (by rw [HE.out, HB.out]; rfl), ?_, Chg.refl _ _⟩
      rw [HL.out, set_same (.inl (by simp [hn, HB.out]))]
      exact H.out
    | false =>
      rw [hb] at hx
      have HB := Lib.hid hb
      clear hb
      go_enter Tryd.func17, Tryd.ntmps17
      go_wp2_with (go_at_call 59; refine HI.out.mono ?_; rintro e w' ⟨rfl, rfl⟩)
      go_ret
      exact ⟨ret_int (by rw [HE.out, HB.out]; rfl), by rw [HL.out]; exact HF.out, Chg.setCell (S := fun k => k = rw) _ rfl _⟩
  · have hi := (ris H.out p)
    have hdd : decide ((0 : Int) ≤ p ∧ p < l.length) = false := by simp only [decide_eq_false_iff_not]; exact h0
    rw [hdd] at hi
    have HI := Lib.hid hi
    have hE : addE l p = 1 := by unfold addE; rw [if_neg h0]
    have hL : addL l p = l := by
      unfold addL
      split
      · exact set_same (.inr (by omega))
      · rfl
    have HE := Lib.hid hE
    have HL := Lib.hid hL
    clear hst hwd hi hdd h0 hE hL
    go_enter Tryd.func17, Tryd.ntmps17
    go_wp2_with (go_at_call 59; refine HI.out.mono ?_; rintro e w' ⟨rfl, rfl⟩)
    go_ret
    exact ⟨ret_int HE.out.symm, by rw [HL.out]; exact H.out, Chg.refl _ _⟩

theorem rdrop {w : World} {r rw : Nat} {l : List Bool} (h : RefAt w r rw l) (p : Int) :
    Calls Tryd.prog 16 #[.pointer (some ⟨r, 0, none⟩), .int .i64 p] w fun e w' => e = .returned (.int .i64 (dropE l p)) ∧ RefAt w' r rw (dropL l p) ∧ Chg (fun k => k = rw) w w' := by
  have H := Lib.hid h
  obtain ⟨hne, hpos, hsm, sp, cap, hst, hwd⟩ := h
  have hc : w.cell? ⟨r, 0, none⟩ = some (.slice (some ⟨rw, 0, none⟩) l.length cap) := hst.cell 0
  by_cases h0 : 0 ≤ p ∧ p < l.length
  · obtain ⟨n, rfl⟩ := Int.eq_ofNat_of_zero_le h0.1
    have hn : n < l.length := by omega
    have hx : w.cell? ⟨rw, n, none⟩ = some (.bool l[n]) := (hwd.cell _).trans (bools_get sp hn)
    have hf : w.frozen? ⟨rw, n, none⟩ = false := hwd.frozen _
    have hi := (ris H.out (n : Int))
    have hdd : decide ((0 : Int) ≤ n ∧ (n : Int) < l.length) = true := by simp; omega
    rw [hdd] at hi
    have HI := Lib.hid hi
    have hfin : RefAt (w.setCell ⟨rw, n, none⟩ (.bool false)) r rw (l.set n false) := by
      refine ⟨hne, by simpa using hpos, by simpa using hsm, sp, cap, ?_, ?_⟩
      · simpa using hst.set_ne (p := ⟨rw, n, none⟩) (fun e => hne e.symm) (.bool false)
      · have := hwd.set n (.bool false)
        rw [List.set_append_left _ _ (by simpa [bools] using hn)] at this
        simpa [bools, List.map_set] using this
    have HF := Lib.hid hfin
    have hn' : (n : Int) < l.length := by omega
    have hE : dropE l (n : Int) = if l[n] then 0 else 4 := by simp [dropE, hn]
    have hL : dropL l (n : Int) = l.set n false := by simp [dropL]
    have HE := Lib.hid hE
    have HL := Lib.hid hL
    clear hst hwd hi hdd h0 hfin hE hL
    cases hb : l[n] with
    | false =>
      rw [hb] at hx
      have HB := Lib.hid hb
      clear hb
      go_enter Tryd.func16, Tryd.ntmps16
      go_wp2_with (go_at_call 59; refine HI.out.mono ?_; rintro e w' ⟨rfl, rfl⟩)
      go_ret
      refine ⟨ret_int (by rw [HE.out, HB.out]; rfl), ?_, Chg.refl _ _⟩
      rw [HL.out, set_same (.inl (by simp [hn, HB.out]))]
      exact H.out
    | true =>
      rw [hb] at hx
      have HB := Lib.hid hb
      clear hb
      go_enter Tryd.func16, Tryd.ntmps16
      go_wp2_with (go_at_call 59; refine HI.out.mono ?_; rintro e w' ⟨rfl, rfl⟩)
      go_ret
      exact ⟨ret_int (by rw [HE.out, HB.out]; rfl), by rw [HL.out]; exact HF.out, Chg.setCell (S := fun k => k = rw) _ rfl _⟩
  · have hi := (ris H.out p)
    have hdd : decide ((0 : Int) ≤ p ∧ p < l.length) = false := by simp only [decide_eq_false_iff_not]; exact h0
    rw [hdd] at hi
    have HI := Lib.hid hi
    have hE : dropE l p = 1 := by unfold dropE; rw [if_neg h0]
    have hL : dropL l p = l := by
      unfold dropL
      split
      · exact set_same (.inr (by omega))
      · rfl
    have HE := Lib.hid hE
    have HL := Lib.hid hL
    clear hst hwd hi hdd h0 hE hL
    go_enter Tryd.func16, Tryd.ntmps16
    go_wp2_with (go_at_call 59; refine HI.out.mono ?_; rintro e w' ⟨rfl, rfl⟩)
    go_ret
    exact ⟨ret_int HE.out.symm, by rw [HL.out]; exact H.out, Chg.refl _ _⟩

end Go.Proofs.YtbebjpdbnpdpfaaDoor
