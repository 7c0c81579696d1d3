/- The walks of package freemap: a map as four sets; none, made, settle. -/
import Derived.Test.YtbebjpdbnpdpfaaDoorA22
set_option maxRecDepth 100000
set_option linter.unusedVariables false
set_option linter.unusedSimpArgs false
namespace Go.Proofs.YtbebjpdbnpdpfaaDoor
open Go.RowKit

abbrev at0 (b : Nat) : Value := .pointer (some ⟨b, 0, none⟩)

/-- A map: the sets of its free pages, of those held, of those of its own, of those that were free. -/
structure MapOf (w : World) (m f fw h hw o ow s sw : Nat) (F H O S : List Bool) : Prop where
  blk : Blk w m 77 [at0 f, at0 h, at0 o, at0 s]
  sf : SetAt w f fw F
  sh : SetAt w h hw H
  so : SetAt w o ow O
  ss : SetAt w s sw S
  d1 : f ≠ h ∧ f ≠ o ∧ f ≠ s ∧ h ≠ o ∧ h ≠ s ∧ o ≠ s
  d2 : fw ≠ hw ∧ fw ≠ ow ∧ fw ≠ sw ∧ hw ≠ ow ∧ hw ≠ sw ∧ ow ≠ sw

def own9 (m f fw h hw o ow s sw k : Nat) : Prop := k = m ∨ k = f ∨ k = fw ∨ k = h ∨ k = hw ∨ k = o ∨ k = ow ∨ k = s ∨ k = sw

theorem SetAt.apart {w : World} {b bw b' bw' : Nat} {l l' : List Bool} (h : SetAt w b bw l) (h' : SetAt w b' bw' l') : b ≠ bw' ∧ bw ≠ b' := by
  obtain ⟨_, _, x1, x2⟩ := h.blks
  obtain ⟨_, _, y1, y2⟩ := h'.blks
  exact ⟨x1.ne y2 (by decide), x2.ne y1 (by decide)⟩

section
variable {w w' : World} {m f fw h hw o ow s sw : Nat} {F H O S X : List Bool}
theorem MapOf.keep {T : Nat → Prop} (M : MapOf w m f fw h hw o ow s sw F H O S) (hc : Chg T w w') (hn : ∀ k, own9 m f fw h hw o ow s sw k → ¬ T k) : MapOf w' m f fw h hw o ow s sw F H O S :=
  ⟨M.blk.keep hc (hn _ (by simp [own9])), M.sf.keep hc (hn _ (by simp [own9])) (hn _ (by simp [own9])), M.sh.keep hc (hn _ (by simp [own9])) (hn _ (by simp [own9])), M.so.keep hc (hn _ (by simp [own9])) (hn _ (by simp [own9])),
    M.ss.keep hc (hn _ (by simp [own9])) (hn _ (by simp [own9])), M.d1, M.d2⟩
theorem MapOf.same (M : MapOf w m f fw h hw o ow s sw F H O S) (hc : Same w w') : MapOf w' m f fw h hw o ow s sw F H O S := M.keep hc (fun _ _ h => h)
theorem MapOf.lt (M : MapOf w m f fw h hw o ow s sw F H O S) {k : Nat} (hk : own9 m f fw h hw o ow s sw k) : k < w.heap.size := by
  have := M.blk.lt
  have := M.sf.lt
  have := M.sh.lt
  have := M.so.lt
  have := M.ss.lt
  rcases hk with h | h | h | h | h | h | h | h | h <;> omega

theorem MapOf.setF (M : MapOf w m f fw h hw o ow s sw F H O S) (hS : SetAt w' f fw X) (hc : Chg (fun k => k = fw) w w') : MapOf w' m f fw h hw o ow s sw X H O S := by
  obtain ⟨_, _, x1, x2⟩ := M.sf.blks
  exact ⟨M.blk.keep hc (M.blk.ne x2 (by decide)), hS, M.sh.keep hc (M.sh.apart M.sf).1 (Ne.symm M.d2.1), M.so.keep hc (M.so.apart M.sf).1 (Ne.symm M.d2.2.1), M.ss.keep hc (M.ss.apart M.sf).1 (Ne.symm M.d2.2.2.1), M.d1, M.d2⟩
theorem MapOf.setH (M : MapOf w m f fw h hw o ow s sw F H O S) (hS : SetAt w' h hw X) (hc : Chg (fun k => k = hw) w w') : MapOf w' m f fw h hw o ow s sw F X O S := by
  obtain ⟨_, _, x1, x2⟩ := M.sh.blks
  exact ⟨M.blk.keep hc (M.blk.ne x2 (by decide)), M.sf.keep hc (M.sf.apart M.sh).1 M.d2.1, hS, M.so.keep hc (M.so.apart M.sh).1 (Ne.symm M.d2.2.2.2.1), M.ss.keep hc (M.ss.apart M.sh).1 (Ne.symm M.d2.2.2.2.2.1), M.d1, M.d2⟩
theorem MapOf.setO (M : MapOf w m f fw h hw o ow s sw F H O S) (hS : SetAt w' o ow X) (hc : Chg (fun k => k = ow) w w') : MapOf w' m f fw h hw o ow s sw F H X S := by
  obtain ⟨_, _, x1, x2⟩ := M.so.blks
  exact ⟨M.blk.keep hc (M.blk.ne x2 (by decide)), M.sf.keep hc (M.sf.apart M.so).1 M.d2.2.1, M.sh.keep hc (M.sh.apart M.so).1 M.d2.2.2.2.1, hS, M.ss.keep hc (M.ss.apart M.so).1 (Ne.symm M.d2.2.2.2.2.2), M.d1, M.d2⟩
end

theorem xmade_nil (w : World) : Calls Tryd.prog 74 #[.pointer none] w fun e w' => e = .returned (.bool false) ∧ w = w' := by
  go_enter Tryd.func74, Tryd.ntmps74
  go_wp2
  go_ret
  exact ⟨rfl, rfl⟩
theorem xmade_zero {w : World} {m : Nat} (hc : w.cell? ⟨m, 0, none⟩ = some (.pointer none)) : Calls Tryd.prog 74 #[at0 m] w fun e w' => e = .returned (.bool false) ∧ w = w' := by
  go_enter Tryd.func74, Tryd.ntmps74
  go_wp2
  go_ret
  exact ⟨rfl, rfl⟩
theorem xmade {w : World} {m f : Nat} (hc : w.cell? ⟨m, 0, none⟩ = some (at0 f)) : Calls Tryd.prog 74 #[at0 m] w fun e w' => e = .returned (.bool true) ∧ w = w' := by
  go_enter Tryd.func74, Tryd.ntmps74
  go_wp2
  go_ret
  exact ⟨rfl, rfl⟩

theorem fnone {w : World} {m f fw : Nat} {F : List Bool} (hc : w.cell? ⟨m, 0, none⟩ = some (at0 f)) (hS : SetAt w f fw F) :
    Calls Tryd.prog 93 #[at0 m] w fun e w' => ∃ b bw, e = .returned (at0 b) ∧ NewSet w w' b bw (List.replicate F.length false) := by
  have h1 : (1 : Int) ≤ (F.length : Nat) := by have := hS.2.1; omega
  have h2 : ((F.length : Nat) : Int) ≤ 2048 := by have := hS.2.2.1; omega
  have hs := xsize hS
  have HS := Lib.hid hs
  clear hs hS
  go_enter Tryd.func93, Tryd.ntmps93
  go_wp2_with fail
  go_at_call 61; refine HS.out.mono ?_; rintro e w1 ⟨rfl, rfl⟩
  go_wp2_with fail
  go_at_call 10; refine (xnew _ _ h1 h2).mono ?_; rintro e w1 ⟨b, bw, rfl, hN⟩
  have HN := Lib.hid hN
  clear hN
  go_wp2_with fail
  go_ret
  exact ⟨b, bw, rfl, by simpa using HN.out⟩

/-- What is free is what was. -/
theorem fsettle {w : World} {m f fw : Nat} {F : List Bool} {v1 v2 v3 : Value} (hb : Blk w m 77 [at0 f, v1, v2, v3]) (hS : SetAt w f fw F) :
    Calls Tryd.prog 72 #[at0 m] w fun e w' => (∃ v, e = .returned v) ∧ ∃ h hw o ow s sw, MapOf w' m f fw h hw o ow s sw F (List.replicate F.length false) (List.replicate F.length false) F ∧ Chg (fun k => k = m) w w' ∧
      w.heap.size ≤ h ∧ w.heap.size ≤ hw ∧ w.heap.size ≤ o ∧ w.heap.size ≤ ow ∧ w.heap.size ≤ s ∧ w.heap.size ≤ sw := by
  have hc : w.cell? ⟨m, 0, none⟩ = some (at0 f) := hb.cell 0
  have HB := Lib.hid hb
  have HS := Lib.hid hS
  clear hb hS
  go_enter Tryd.func72, Tryd.ntmps72
  go_wp2_with fail
  go_at_call 13; refine (xclone HS.out).mono ?_; rintro e w1 ⟨s, sw, rfl, hN⟩
  have hb1 := HB.out.same hN.2.1
  have HN1 := Lib.hid hN
  have c3 : w1.cell? ⟨m, 3, none⟩ = some v3 := hb1.cell 3
  have f3 := hb1.frozen 3
  have hb2 := hb1.set 3 (at0 s)
  have c0 := hb2.cell 0
  have c0' : (w1.setCell ⟨m, 3, none⟩ (at0 s)).cell? ⟨m, 0, none⟩ = some (at0 f) := c0
  have HB2 := Lib.hid (show Blk (w1.setCell ⟨m, 3, none⟩ (at0 s)) m 77 [at0 f, v1, v2, at0 s] from hb2)
  clear hb1 hN hb2 c0
  have hmf : m ≠ f ∧ m ≠ fw := by
    obtain ⟨_, _, x1, x2⟩ := HS.out.blks
    exact ⟨HB.out.ne x1 (by decide), HB.out.ne x2 (by decide)⟩
  have HS2 := Lib.hid (((HS.out.same HN1.out.2.1).keep (Chg.setCell (S := fun k => k = m) w1 (p := ⟨m, 3, none⟩) rfl (at0 s)) (Ne.symm hmf.1) (Ne.symm hmf.2)) : SetAt (w1.setCell ⟨m, 3, none⟩ (at0 s)) f fw F)
  go_wp2_with fail
  go_at_call 93; refine (fnone c0' HS2.out).mono ?_; rintro e w2 ⟨h, hw, rfl, hN⟩
  have HN2 := Lib.hid hN
  have c02 : w2.cell? ⟨m, 0, none⟩ = some (at0 f) := (HB2.out.same hN.2.1).cell 0
  clear hN
  go_wp2_with fail
  go_at_call 93; refine (fnone c02 (HS2.out.same HN2.out.2.1)).mono ?_; rintro e w3 ⟨o, ow, rfl, hN⟩
  have HN3 := Lib.hid hN
  have hb3 := HB2.out.same (HN2.out.2.1.trans hN.2.1)
  have f1 := hb3.frozen 1
  have f2 := hb3.frozen 2
  have g1 : w3.cell? ⟨m, 1, none⟩ = some v1 := hb3.cell 1
  have g2 : w3.cell? ⟨m, 2, none⟩ = some v2 := hb3.cell 2
  have HB3 := Lib.hid hb3
  clear hb3 hN
  go_wp2_with fail
  refine bodyPost_end (results_none rfl _ _ _) rfl ?_
  have hsz1 := HN1.out.2.1.size
  have hsz2 : w1.heap.size ≤ w2.heap.size := by have := HN2.out.2.1.size; simpa [World.setCell] using this
  have hsz3 := HN3.out.2.1.size
  have l1 := HN1.out.1.lt
  have l2 := HN2.out.1.lt
  have l3 := HN3.out.1.lt
  have lf := HS.out.lt
  have lm := HB.out.lt
  obtain ⟨s1, s2, s3, s4⟩ := HN1.out
  obtain ⟨h1, h2, h3, h4⟩ := HN2.out
  obtain ⟨o1, o2, o3, o4⟩ := HN3.out
  have h3' : w1.heap.size ≤ h := by simpa [World.setCell] using h3
  have h4' : w1.heap.size ≤ hw := by simpa [World.setCell] using h4
  have e1 : Chg (fun k => k = m) w w1 := s2.to
  have e2 : Chg (fun k => k = m) w1 (w1.setCell ⟨m, 3, none⟩ (at0 s)) := Chg.setCell (S := fun k => k = m) w1 (p := ⟨m, 3, none⟩) rfl _
  have e3 : Chg (fun k => k = m) (w1.setCell ⟨m, 3, none⟩ (at0 s)) w3 := Same.to (h2.trans o2)
  have e4 : Chg (fun k => k = m) w3 ((w3.setCell ⟨m, 1, none⟩ (at0 h)).setCell ⟨m, 2, none⟩ (at0 o)) := (Chg.setCell (S := fun k => k = m) w3 (p := ⟨m, 1, none⟩) rfl _).trans (Chg.setCell (S := fun k => k = m) _ (p := ⟨m, 2, none⟩) rfl _)
  refine ⟨⟨_, rfl⟩, h, hw, o, ow, s, sw, ⟨?_, ?_, ?_, ?_, ?_, ?_, ?_⟩, ((e1.trans e2).trans e3).trans e4, ?_⟩
  · have := (HB3.out.set 1 (at0 h)).set 2 (at0 o)
    simpa using this
  · exact (HS2.out.same (h2.trans o2)).keep e4 (Ne.symm hmf.1) (Ne.symm hmf.2)
  · exact (h1.same o2).keep e4 (by omega) (by omega)
  · exact o1.keep e4 (by omega) (by omega)
  · exact ((s1.keep e2 (by omega) (by omega)).same (h2.trans o2)).keep e4 (by omega) (by omega)
  · refine ⟨?_, ?_, ?_, ?_, ?_, ?_⟩ <;> omega
  · refine ⟨?_, ?_, ?_, ?_, ?_, ?_⟩ <;> omega
  · refine ⟨?_, ?_, ?_, ?_, ?_, ?_⟩ <;> omega

end Go.Proofs.YtbebjpdbnpdpfaaDoor
