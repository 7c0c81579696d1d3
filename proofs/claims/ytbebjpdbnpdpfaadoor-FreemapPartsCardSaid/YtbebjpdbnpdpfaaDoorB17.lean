/- The calls of the law FreemapParts: what is taken, told; a commit; an abort; how many pages there are of each kind. -/
import Derived.Test.YtbebjpdbnpdpfaaDoorB16
set_option maxRecDepth 100000
set_option linter.unusedVariables false
set_option linter.unusedSimpArgs false
namespace Go.Proofs.YtbebjpdbnpdpfaaDoor
open Go.RowKit

/-- As KeepI; and ts are the pages that are taken. -/
structure KeepT (w : World) (n m : Nat) (cs ts : List Nat) (v : Value) (e : Nat) (ec : List Value) (W : World) : Prop where
  map : ∃ f fw h hw o ow s sw F H O S, MapOf W m f fw h hw o ow s sw F H O S ∧ Inv n F H O S ∧ cs = elems (notB S) ∧ ts = takenL F H ∧ ∀ k, own9 m f fw h hw o ow s sw k → w.heap.size ≤ k
  row : Row W 3 v (ints cs)
  op : Blk W e 44 ec
  same : Same w W
  tab0 : Tab w

section
variable {w W W' : World} {n m e : Nat} {cs ts : List Nat} {v : Value} {ec : List Value}
theorem KeepT.keep (K : KeepT w n m cs ts v e ec W) : KeepI w n m cs v e ec W := by
  obtain ⟨⟨f, fw, h, hw, o, ow, s, sw, F, H, O, S, M, I, hc, ht, hown⟩, h2, h3, h4, h5⟩ := K
  exact ⟨⟨f, fw, h, hw, o, ow, s, sw, F, H, O, S, M, I, hc, hown⟩, h2, h3, h4, h5⟩
theorem KeepT.to (K : KeepT w n m cs ts v e ec W) (hs : Same W W') : KeepT w n m cs ts v e ec W' := by
  obtain ⟨⟨f, fw, h, hw, o, ow, s, sw, F, H, O, S, M, I, hc, ht, hown⟩, h2, h3, h4, h5⟩ := K
  exact ⟨⟨f, fw, h, hw, o, ow, s, sw, F, H, O, S, M.same hs, I, hc, ht, hown⟩, h2.same hs, h3.same hs, h4.trans hs, h5⟩

theorem t_taken (K : KeepI w n m cs v e ec W) : Calls Tryd.prog 27 #[at0 m] W fun x W' => ∃ v' ts, x = .returned v' ∧ NewInts W W' v' ts ∧ ts.length ≤ n ∧ KeepT w n m cs ts v e ec W' := by
  obtain ⟨⟨f, fw, h, hw, o, ow, s, sw, F, H, O, S, M, I, hc, hown⟩, h2, h3, h4, h5⟩ := K
  refine (ftaken M).mono ?_
  rintro x W' ⟨v', rfl, hn⟩
  have hs := hn.2.1
  exact ⟨v', _, rfl, hn, by have := takenTo_len F H F.length; rw [← I.lF]; exact this, ⟨f, fw, h, hw, o, ow, s, sw, F, H, O, S, M.same hs, I, hc, rfl, hown⟩, h2.same hs, h3.same hs, h4.trans hs, h5⟩

theorem t_commit (K : KeepT w n m cs ts v e ec W) : Calls Tryd.prog 26 #[at0 m] W fun x W' => x = .returned (.int .i64 0) ∧ Fresh w n m ts W' ∧ Blk W' e 44 ec ∧ Same w W' ∧ (∀ u xs, Row W 3 u (ints xs) → Row W' 3 u (ints xs)) := by
  have hT := K.keep.tab
  obtain ⟨⟨f, fw, h, hw, o, ow, s, sw, F, H, O, S, M, I, hc, ht, hown⟩, h2, h3, h4, h5⟩ := K
  have hz := h4.size
  refine (fcommit M hT).mono ?_
  rintro x W' ⟨rfl, h', hw', o', ow', s', sw', M', hC, l1, l2, l3, l4, l5, l6⟩
  have hin : ∀ j, j = fw ∨ j = m → own9 m f fw h hw o ow s sw j := fun j hj => by rcases hj with e | e <;> simp [own9, e]
  rw [I.lF] at M'
  refine ⟨rfl, ⟨f, fw, h', hw', o', ow', s', sw', _, M', by rw [addAll_len, I.lF], by rw [ht, I.commit], fun k hk => ?_⟩, h3.keep hC (fun hj => own9_type M h3 (by decide) (by decide) (by decide) (hin _ hj)), h4.trans' hC (fun j hj e => by have := hown j (hin j e); omega),
    fun u xs hu => hu.keep hC (fun g hg hj => own9_row M hu (hin g hj) hg)⟩
  have o1 := hown m (by simp [own9])
  have o2 := hown f (by simp [own9])
  have o3 := hown fw (by simp [own9])
  rcases hk with e | e | e | e | e | e | e | e | e <;> omega

/-- Behind a commit, or an abort: none is held. -/
theorem t_held (K : Fresh w n m cs W) : Calls Tryd.prog 38 #[at0 m] W fun x W' => x = .returned (.int .i64 0) ∧ W = W' := by
  obtain ⟨f, fw, h, hw, o, ow, s, sw, F, M, hF, hc, hown⟩ := K
  refine (fheld M).mono ?_
  rintro x W' ⟨rfl, rfl⟩
  exact ⟨ret_int (by rw [List.count_replicate]; rfl), rfl⟩
end

end Go.Proofs.YtbebjpdbnpdpfaaDoor
