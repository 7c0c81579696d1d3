/- The walks of the law FreemapKeeps: what holds in its loop, and each call in it. -/
import Derived.Test.YtbebjpdbnpdpfaaDoorB10
set_option maxRecDepth 100000
set_option linter.unusedVariables false
set_option linter.unusedSimpArgs false
namespace Go.Proofs.YtbebjpdbnpdpfaaDoor
open Go.RowKit

theorem own9_type {w : World} {m f fw h hw o ow s sw : Nat} {F H O S : List Bool} (M : MapOf w m f fw h hw o ow s sw F H O S) {b : Nat} {t : TypeId} {c : List Value} (hb : Blk w b t c) (h1 : t ≠ 77) (h2 : t ≠ 81) (h3 : t ≠ 92) : ¬ own9 m f fw h hw o ow s sw b := by
  obtain ⟨_, _, f1, f2⟩ := M.sf.blks
  obtain ⟨_, _, g1, g2⟩ := M.sh.blks
  obtain ⟨_, _, i1, i2⟩ := M.so.blks
  obtain ⟨_, _, j1, j2⟩ := M.ss.blks
  have k0 := hb.ne M.blk h1
  have k1 := hb.ne f1 h2
  have k2 := hb.ne f2 h3
  have k3 := hb.ne g1 h2
  have k4 := hb.ne g2 h3
  have k5 := hb.ne i1 h2
  have k6 := hb.ne i2 h3
  have k7 := hb.ne j1 h2
  have k8 := hb.ne j2 h3
  rintro (e | e | e | e | e | e | e | e | e)
  · exact k0 e
  · exact k1 e
  · exact k2 e
  · exact k3 e
  · exact k4 e
  · exact k5 e
  · exact k6 e
  · exact k7 e
  · exact k8 e
theorem own9_row {w : World} {m f fw h hw o ow s sw : Nat} {F H O S : List Bool} (M : MapOf w m f fw h hw o ow s sw F H O S) {v : Value} {xs : List Value} (hr : Row w 3 v xs) {k : Nat} (hk : own9 m f fw h hw o ow s sw k) : v.ownBlock ≠ some k := by
  obtain ⟨_, _, f1, f2⟩ := M.sf.blks
  obtain ⟨_, _, g1, g2⟩ := M.sh.blks
  obtain ⟨_, _, i1, i2⟩ := M.so.blks
  obtain ⟨_, _, j1, j2⟩ := M.ss.blks
  rcases hk with e | e | e | e | e | e | e | e | e <;> subst e
  · exact hr.ne M.blk (by decide)
  · exact hr.ne f1 (by decide)
  · exact hr.ne f2 (by decide)
  · exact hr.ne g1 (by decide)
  · exact hr.ne g2 (by decide)
  · exact hr.ne i1 (by decide)
  · exact hr.ne i2 (by decide)
  · exact hr.ne j1 (by decide)
  · exact hr.ne j2 (by decide)

/-- A map, an act in a cell of its own, a row of pages: those that were taken when the last commit was done. -/
structure KeepI (w : World) (n m : Nat) (cs : List Nat) (v : Value) (e : Nat) (ec : List Value) (W : World) : Prop where
  map : ∃ f fw h hw o ow s sw F H O S, MapOf W m f fw h hw o ow s sw F H O S ∧ Inv n F H O S ∧ cs = elems (notB S) ∧ ∀ k, own9 m f fw h hw o ow s sw k → w.heap.size ≤ k
  row : Row W 3 v (ints cs)
  op : Blk W e 44 ec
  same : Same w W
  tab0 : Tab w

section
variable {w W W' : World} {n m e : Nat} {cs : List Nat} {v : Value} {ec : List Value}
theorem KeepI.tab (K : KeepI w n m cs v e ec W) : Tab W := K.tab0.same K.same
theorem KeepI.to (K : KeepI w n m cs v e ec W) (hs : Same W W') : KeepI w n m cs v e ec W' := by
  obtain ⟨⟨f, fw, h, hw, o, ow, s, sw, F, H, O, S, M, I, hc, hown⟩, h2, h3, h4, h5⟩ := K
  exact ⟨⟨f, fw, h, hw, o, ow, s, sw, F, H, O, S, M.same hs, I, hc, hown⟩, h2.same hs, h3.same hs, h4.trans hs, h5⟩

theorem k_run (K : KeepI w n m cs v e ec W) (k : Int) : Calls Tryd.prog 24 #[at0 m, .int .i64 k] W fun x W' => ∃ p c, x = .returned (.tuple #[.int .i64 p, .int .i64 c]) ∧ KeepI w n m cs v e ec W' ∧ (c = 0 → 0 ≤ p ∧ ∀ q ∈ cs, ¬ (p ≤ (q : Int) ∧ (q : Int) - p < k)) := by
  have hT := K.tab
  obtain ⟨⟨f, fw, h, hw, o, ow, s, sw, F, H, O, S, M, I, hc, hown⟩, h2, h3, h4, h5⟩ := K
  refine (fallocRun M hT k).mono ?_
  rintro x W' ⟨rfl, M', hC⟩
  have hin : ∀ j, j = fw ∨ j = ow → own9 m f fw h hw o ow s sw j := fun j hj => by rcases hj with e | e <;> simp [own9, e]
  refine ⟨_, _, rfl, ⟨⟨f, fw, h, hw, o, ow, s, sw, _, H, _, S, M', I.alloc k, hc, hown⟩, h2.keep hC (fun g hg hj => own9_row M h2 (hin g hj) hg), h3.keep hC (fun hj => own9_type M h3 (by decide) (by decide) (by decide) (hin _ hj)), h4.trans' hC (fun j hj e => by have := hown j (hin j e); omega), h5⟩, ?_⟩
  intro hE
  unfold allocE at hE
  split at hE
  · cases hE
  · split at hE
    · cases hE
    · rename_i k1 k2
      obtain ⟨q', rfl⟩ : ∃ q' : Nat, k = q' := ⟨k.toNat, by omega⟩
      have hp : allocP F q' = runN F q' := by unfold allocP; rw [if_neg k1, if_neg k2]
      rw [hp]
      refine ⟨by omega, fun q hq hr => ?_⟩
      rw [hc] at hq
      have h0 := I.kept hq
      rw [run_free (by omega) k2 q (by omega)] at h0
      cases h0

theorem k_alloc (K : KeepI w n m cs v e ec W) : Calls Tryd.prog 22 #[at0 m] W fun x W' => ∃ p c, x = .returned (.tuple #[.int .i64 p, .int .i64 c]) ∧ KeepI w n m cs v e ec W' ∧ (c = 0 → 0 ≤ p ∧ ∀ q ∈ cs, ¬ (p ≤ (q : Int) ∧ (q : Int) - p < 1)) := by
  have HC := Lib.hid (k_run K 1)
  clear K
  go_enter Tryd.func22, Tryd.ntmps22
  go_wp2_with fail
  go_at_call 24; refine HC.out.mono ?_; rintro x w1 ⟨p, c, rfl, h1, h2⟩
  have H1 := Lib.hid (⟨h1, h2⟩ : _ ∧ _)
  clear h1 h2
  go_wp2_with fail
  go_ret2
  exact ⟨p, c, rfl, H1.out⟩

theorem k_free (K : KeepI w n m cs v e ec W) (p : Int) : Calls Tryd.prog 25 #[at0 m, .int .i64 p] W fun x W' => (∃ c, x = .returned (.int .i64 c)) ∧ KeepI w n m cs v e ec W' := by
  obtain ⟨⟨f, fw, h, hw, o, ow, s, sw, F, H, O, S, M, I, hc, hown⟩, h2, h3, h4, h5⟩ := K
  refine (ffree M (by rw [I.lH, I.lF]) (by rw [I.lO, I.lF]) p).mono ?_
  rintro x W' ⟨rfl, M', hC⟩
  have hin : ∀ j, j = fw ∨ j = hw ∨ j = ow → own9 m f fw h hw o ow s sw j := fun j hj => by rcases hj with e | e | e <;> simp [own9, e]
  exact ⟨⟨_, rfl⟩, ⟨f, fw, h, hw, o, ow, s, sw, _, _, _, S, M', I.free p, hc, hown⟩, h2.keep hC (fun g hg hj => own9_row M h2 (hin g hj) hg), h3.keep hC (fun hj => own9_type M h3 (by decide) (by decide) (by decide) (hin _ hj)), h4.trans' hC (fun j hj e => by have := hown j (hin j e); omega), h5⟩

/-- Behind a commit: what is told as taken is the new row. -/
def Fresh (w : World) (n m : Nat) (cs : List Nat) (W : World) : Prop := ∃ f fw h hw o ow s sw F, MapOf W m f fw h hw o ow s sw F (List.replicate n false) (List.replicate n false) F ∧ F.length = n ∧ cs = elems (notB F) ∧ ∀ k, own9 m f fw h hw o ow s sw k → w.heap.size ≤ k

theorem k_commit (K : KeepI w n m cs v e ec W) : Calls Tryd.prog 26 #[at0 m] W fun x W' => x = .returned (.int .i64 0) ∧ ∃ cs', Fresh w n m cs' W' ∧ Blk W' e 44 ec ∧ Same w W' := by
  have hT := K.tab
  obtain ⟨⟨f, fw, h, hw, o, ow, s, sw, F, H, O, S, M, I, hc, hown⟩, h2, h3, h4, h5⟩ := K
  have hsz := M.blk.lt
  have hz := h4.size
  refine (fcommit M hT).mono ?_
  rintro x W' ⟨rfl, h', hw', o', ow', s', sw', M', hC, l1, l2, l3, l4, l5, l6⟩
  have hin : ∀ j, j = fw ∨ j = m → own9 m f fw h hw o ow s sw j := fun j hj => by rcases hj with e | e <;> simp [own9, e]
  rw [I.lF] at M'
  refine ⟨rfl, _, ⟨f, fw, h', hw', o', ow', s', sw', _, M', by rw [addAll_len, I.lF], rfl, fun k hk => ?_⟩, h3.keep hC (fun hj => own9_type M h3 (by decide) (by decide) (by decide) (hin _ hj)), h4.trans' hC (fun j hj e => by have := hown j (hin j e); omega)⟩
  have o1 := hown m (by simp [own9])
  have o2 := hown f (by simp [own9])
  have o3 := hown fw (by simp [own9])
  rcases hk with e | e | e | e | e | e | e | e | e <;> omega

theorem k_abort (K : KeepI w n m cs v e ec W) : Calls Tryd.prog 28 #[at0 m] W fun x W' => x = .returned (.int .i64 0) ∧ Fresh w n m cs W' ∧ Row W' 3 v (ints cs) ∧ Blk W' e 44 ec ∧ Same w W' := by
  obtain ⟨⟨f, fw, h, hw, o, ow, s, sw, F, H, O, S, M, I, hc, hown⟩, h2, h3, h4, h5⟩ := K
  have hz := h4.size
  refine (fabort M).mono ?_
  rintro x W' ⟨rfl, h', hw', o', ow', s', sw', M', hC, l1, l2, l3, l4, l5, l6⟩
  have hin : ∀ j, j = m → own9 m f fw h hw o ow s sw j := fun j hj => by simp [own9, hj]
  rw [I.lS] at M'
  refine ⟨rfl, ⟨s, sw, h', hw', o', ow', s', sw', S, M', I.lS, hc, fun k hk => ?_⟩, h2.keep hC (fun g hg hj => own9_row M h2 (hin g hj) hg), h3.keep hC (fun hj => own9_type M h3 (by decide) (by decide) (by decide) (hin _ hj)), h4.trans' hC (fun j hj e => by have := hown j (hin j e); omega)⟩
  have o1 := hown m (by simp [own9])
  have o2 := hown s (by simp [own9])
  have o3 := hown sw (by simp [own9])
  rcases hk with e | e | e | e | e | e | e | e | e <;> omega

/-- Behind a commit, or an abort: the pages taken, told. -/
theorem k_taken (K : Fresh w n m cs W) : Calls Tryd.prog 27 #[at0 m] W fun x W' => ∃ v, x = .returned v ∧ NewInts W W' v cs := by
  obtain ⟨f, fw, h, hw, o, ow, s, sw, F, M, hF, hc, hown⟩ := K
  refine (ftaken M).mono ?_
  rintro x W' ⟨v, rfl, hn⟩
  rw [taken_none hF, ← hc] at hn
  exact ⟨v, rfl, hn⟩
theorem Fresh.keep (K : Fresh w n m cs W) (hT : Tab w) (hr : Row W 3 v (ints cs)) (ho : Blk W e 44 ec) (hs : Same w W) : KeepI w n m cs v e ec W := by
  obtain ⟨f, fw, h, hw, o, ow, s, sw, F, M, hF, hc, hown⟩ := K
  exact ⟨⟨f, fw, h, hw, o, ow, s, sw, F, _, _, F, M, Inv.fresh hF, hc, hown⟩, hr, ho, hs, hT⟩
theorem Fresh.same (K : Fresh w n m cs W) (hs : Same W W') : Fresh w n m cs W' := by
  obtain ⟨f, fw, h, hw, o, ow, s, sw, F, M, hF, hc, hown⟩ := K
  exact ⟨f, fw, h, hw, o, ow, s, sw, F, M.same hs, hF, hc, hown⟩
end

end Go.Proofs.YtbebjpdbnpdpfaaDoor
