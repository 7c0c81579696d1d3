/- The walks of the law of package extent: what holds throughout the comparison of a set with the reference's, and each call in it. -/
import Derived.Test.YtbebjpdbnpdpfaaDoorA19
set_option maxRecDepth 100000
set_option linter.unusedVariables false
set_option linter.unusedSimpArgs false
namespace Go.Proofs.YtbebjpdbnpdpfaaDoor
open Go.RowKit

/-- A set and the reference's set, of the same pages; a row of numbers that are told; nothing older has changed. -/
structure Hold (w0 : World) (b bw r rw : Nat) (l : List Bool) (a7 : Option Addr) (xs : List Nat) (w : World) : Prop where
  set : SetAt w b bw l
  ref : RefAt w r rw l
  tab : Tab w
  view : View w a7 (ints xs)
  same : Same w0 w

section
variable {w0 w w' : World} {b bw r rw : Nat} {l : List Bool} {a7 : Option Addr} {xs : List Nat}
theorem Hold.to (h : Hold w0 b bw r rw l a7 xs w) (hs : Same w w') : Hold w0 b bw r rw l a7 xs w' := ⟨h.set.same hs, h.ref.same hs, h.tab.same hs, h.view.same hs, h.same.trans hs⟩
theorem Hold.drewN (h : Hold w0 b bw r rw l a7 xs w) (n : Nat) : Hold w0 b bw r rw l a7 xs (w.drewN n) := h.to (Chg.drewN _ _ _)
theorem Hold.drew (h : Hold w0 b bw r rw l a7 xs w) : Hold w0 b bw r rw l a7 xs w.drew := h.to (Chg.drew _ _)

theorem h_size (h : Hold w0 b bw r rw l a7 xs w) : Calls Tryd.prog 61 #[.pointer (some ⟨b, 0, none⟩)] w fun e w' => e = .returned (.int .i64 (l.length : Nat)) ∧ Hold w0 b bw r rw l a7 xs w' :=
  (xsize h.set).mono fun e w' ⟨h1, h2⟩ => ⟨h1, h2 ▸ h⟩
theorem h_len (h : Hold w0 b bw r rw l a7 xs w) : Calls Tryd.prog 51 #[.pointer (some ⟨b, 0, none⟩)] w fun e w' => e = .returned (.int .i64 ((elems l).length : Nat)) ∧ Hold w0 b bw r rw l a7 xs w' :=
  (xlen h.set).mono fun e w' ⟨h1, h2⟩ => ⟨by rw [elems_count]; exact h1, h2 ▸ h⟩
theorem h_has (h : Hold w0 b bw r rw l a7 xs w) (n : Int) : Calls Tryd.prog 57 #[.pointer (some ⟨b, 0, none⟩), .int .i64 n] w fun e w' => e = .returned (.bool (hasB l n)) ∧ Hold w0 b bw r rw l a7 xs w' :=
  (xhas h.set n).mono fun e w' ⟨h1, m, h2⟩ => ⟨h1, h2 ▸ h.drewN m⟩
theorem h_rhas (h : Hold w0 b bw r rw l a7 xs w) (n : Int) : Calls Tryd.prog 62 #[.pointer (some ⟨r, 0, none⟩), .int .i64 n] w fun e w' => e = .returned (.bool (hasB l n)) ∧ Hold w0 b bw r rw l a7 xs w' :=
  (rhas h.ref n).mono fun e w' ⟨h1, h2⟩ => ⟨h1, h2 ▸ h⟩
theorem h_first (h : Hold w0 b bw r rw l a7 xs w) (n : Int) : Calls Tryd.prog 63 #[.pointer (some ⟨b, 0, none⟩), .int .i64 n] w fun e w' => e = .returned (.int .i64 (firstB l n)) ∧ Hold w0 b bw r rw l a7 xs w' :=
  (xfirst h.set h.tab n).mono fun e w' ⟨h1, h2⟩ => ⟨h1, h2 ▸ h⟩
theorem h_rfirst (h : Hold w0 b bw r rw l a7 xs w) (n : Int) : Calls Tryd.prog 64 #[.pointer (some ⟨r, 0, none⟩), .int .i64 n] w fun e w' => e = .returned (.int .i64 (firstB l n)) ∧ Hold w0 b bw r rw l a7 xs w' :=
  (rfirst h.ref n).mono fun e w' ⟨h1, h2⟩ => ⟨h1, h2 ▸ h⟩
theorem h_run (h : Hold w0 b bw r rw l a7 xs w) (n : Int) : Calls Tryd.prog 52 #[.pointer (some ⟨b, 0, none⟩), .int .i64 n] w fun e w' => e = .returned (.int .i64 (runN l n)) ∧ Hold w0 b bw r rw l a7 xs w' :=
  (xrun h.set h.tab n).mono fun e w' ⟨h1, h2⟩ => ⟨h1, h.to h2⟩
theorem h_rrun (h : Hold w0 b bw r rw l a7 xs w) (n : Int) : Calls Tryd.prog 65 #[.pointer (some ⟨r, 0, none⟩), .int .i64 n] w fun e w' => e = .returned (.int .i64 (runN l n)) ∧ Hold w0 b bw r rw l a7 xs w' :=
  (rrun h.ref n).mono fun e w' ⟨h1, h2⟩ => ⟨h1, h2 ▸ h⟩

/-- The iterators: a cell of their own. -/
theorem h_all (h : Hold w0 b bw r rw l a7 xs w) : Calls Tryd.prog 67 #[.pointer (some ⟨b, 0, none⟩)] w fun e w' => ∃ c, e = .returned (.func (.func 92) #[] #[.pointer (some ⟨c, 0, none⟩)]) ∧ Blk w' c 23 [.pointer (some ⟨b, 0, none⟩)] ∧ Hold w0 b bw r rw l a7 xs w' :=
  (xall b w).mono fun e w' ⟨h1, h2⟩ => ⟨_, h1, h2 ▸ Blk.newA w 23 #[.pointer (some ⟨b, 0, none⟩)], h2 ▸ h.to (Chg.alloc _ _ _)⟩
theorem h_runs (h : Hold w0 b bw r rw l a7 xs w) : Calls Tryd.prog 50 #[.pointer (some ⟨b, 0, none⟩)] w fun e w' => ∃ c, e = .returned (.func (.func 89) #[] #[.pointer (some ⟨c, 0, none⟩)]) ∧ Blk w' c 23 [.pointer (some ⟨b, 0, none⟩)] ∧ Hold w0 b bw r rw l a7 xs w' :=
  (xruns b w).mono fun e w' ⟨h1, h2⟩ => ⟨_, h1, h2 ▸ Blk.newA w 23 #[.pointer (some ⟨b, 0, none⟩)], h2 ▸ h.to (Chg.alloc _ _ _)⟩

theorem h_pages {c : Nat} (hb : Blk w c 23 [.pointer (some ⟨b, 0, none⟩)]) (h : Hold w0 b bw r rw l a7 xs w) (most : Int) :
    Calls Tryd.prog 66 #[.func (.func 92) #[] #[.pointer (some ⟨c, 0, none⟩)], .int .i64 most] w fun e w' => ∃ a n cap, e = .returned (.slice a n cap) ∧ n = min most.toNat (elems l).length ∧ View w' a (ints ((elems l).take most.toNat)) ∧ Hold w0 b bw r rw l a7 xs w' := by
  have hlt := h.set.lt
  have h0 := h.tab.pos
  have hbl := hb.lt
  refine (xpages (gf := 92) (xs := elems l) (enters_of Tryd.func92 (by kernel_rfl) rfl) (by have := elems_len_le l; have := h.set.2.2.1; omega) (fun O1 W1 hs hO hv => ?_) most).mono ?_
  · have hno : ∀ k, k < w.heap.size → ¬ O1 k := fun k hk h => by
      have := hO k h
      omega
    exact xall_iter (h.set.same hs) (h.tab.same hs) (hb.same hs) ⟨hno _ (by omega), hno _ (by omega), hno _ hbl, hno _ h0⟩ hv
  · rintro e w' ⟨v, rfl, hn⟩
    obtain ⟨a, cap, rfl, hv⟩ := hn.form
    exact ⟨a, _, cap, rfl, List.length_take, hv, h.to hn.2.1⟩

theorem h_told {c : Nat} (hb : Blk w c 23 [.pointer (some ⟨b, 0, none⟩)]) (h : Hold w0 b bw r rw l a7 xs w) (most : Int) :
    Calls Tryd.prog 49 #[.func (.func 89) #[] #[.pointer (some ⟨c, 0, none⟩)], .int .i64 most] w fun e w' => ∃ a1 a2 n c1 c2, e = .returned (.tuple #[.slice a1 n c1, .slice a2 n c2]) ∧ n = min most.toNat (runsB l).length ∧
      View w' a1 (ints ((firsts (runsB l)).take most.toNat)) ∧ View w' a2 (ints ((seconds (runsB l)).take most.toNat)) ∧ Hold w0 b bw r rw l a7 xs w' := by
  have hlt := h.set.lt
  have h0 := h.tab.pos
  have hbl := hb.lt
  refine (xruns_told (gf := 89) (xs := runsB l) (enters_of Tryd.func89 (by kernel_rfl) rfl) (by have := runsB_len_le l; have := h.set.2.2.1; omega) (fun O1 W1 hs hO hv => ?_) most).mono ?_
  · have hno : ∀ k, k < w.heap.size → ¬ O1 k := fun k hk h => by
      have := hO k h
      omega
    exact xruns_iter (h.set.same hs) (h.tab.same hs) (hb.same hs) ⟨hno _ (by omega), hno _ (by omega), hno _ hbl, hno _ h0⟩ hv
  · rintro e w' ⟨v1, v2, rfl, hn1, hn2⟩
    obtain ⟨a1, c1, rfl, hv1⟩ := hn1.form
    obtain ⟨a2, c2, rfl, hv2⟩ := hn2.form
    have e1 : ((firsts (runsB l)).take most.toNat).length = min most.toNat (runsB l).length := by simp [firsts]
    have e2 : ((seconds (runsB l)).take most.toNat).length = min most.toNat (runsB l).length := by simp [seconds]
    rw [e1, e2]
    exact ⟨a1, a2, _, c1, c2, rfl, rfl, hv1, hv2, h.to hn1.2.1⟩

/-- .. and the numbers told held against the row. -/
theorem h_ints {a : Option Addr} {c1 c2 n : Nat} (hv : View w a (ints xs)) (hx : xs.length ≤ 4096) (hn : n = xs.length) (h : Hold w0 b bw r rw l a7 xs w) :
    Calls Tryd.prog 53 #[.slice a n c1, .slice a7 n c2] w fun e w' => e = .returned (.bool true) ∧ Hold w0 b bw r rw l a7 xs w' := by
  subst hn
  exact (xints hv h.view hx hx).mono fun e w' ⟨h1, m, h2⟩ => ⟨by rw [h1]; simp, h2 ▸ h.drewN m⟩
end

end Go.Proofs.YtbebjpdbnpdpfaaDoor
