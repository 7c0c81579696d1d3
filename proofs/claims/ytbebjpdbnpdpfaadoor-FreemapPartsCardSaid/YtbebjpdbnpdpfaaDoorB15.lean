/- The walk of package freemap's iterator over the free pages: an iterator over an iterator. -/
import Derived.Test.YtbebjpdbnpdpfaaDoorB14
set_option maxRecDepth 100000
set_option linter.unusedVariables false
set_option linter.unusedSimpArgs false
namespace Go.Proofs.YtbebjpdbnpdpfaaDoor
open Go.RowKit Go.Shelf
attribute [local go_sem] Oper.semAt_some wide_fn wide_depth eql_func67 eql_func89

theorem marks_end {P : Program} {fn : Func} {R : Ending → World → Prop} {a : Act} {w : World} {v : Value} {D : Nat} (hr : ∀ w', (results fn a.tmps).run P w' = .ok v w') (hd : a.defers = [{ target := .collected D, args := #[] }])
    (hK : w.heap[D]? = some (.deferred (some []))) (hR : R (.returned v) (w.putObj D (.deferred none))) : markPost P fn R .normal a w := by
  show LeavesInM Fence.wide 3 P fn a.tmps R a.defers .returning w
  rw [hd]
  exact ⟨by simp, .inl ⟨_, _, rfl, run_takeDeferred hK, v, hr _, hR⟩⟩

def AllI (J : Nat → (Nat → Prop) → World → Prop) (B m c f fw h hw o ow s sw lp : Nat) (F H O S : List Bool) (i : Nat) (Ow : Nat → Prop) (W : World) : Prop :=
  J i Ow W ∧ MapOf W m f fw h hw o ow s sw F H O S ∧ Blk W B 69 [.func (.yield lp) #[] #[]] ∧ (∀ k, Ow k → ¬ own9 m f fw h hw o ow s sw k ∧ k ≠ c ∧ k ≠ 0 ∧ k ≠ B) ∧ B ≤ W.heap.size
def AllX (Jx : Nat → (Nat → Prop) → World → Prop) (cd : Code) (i : Nat) (Ow : Nat → Prop) (W : World) : Prop := cd = .ret ∧ Jx i Ow W

theorem fall_iter {W : World} {m c f fw h hw o ow s sw : Nat} {F H O S : List Bool} {Ow : Nat → Prop} (M : MapOf W m f fw h hw o ow s sw F H O S) (hT : Tab W) (hc : Blk W c 39 [at0 m])
    (hO : ∀ k, Ow k → ¬ own9 m f fw h hw o ow s sw k ∧ k ≠ c ∧ k ≠ 0) (hv : ∀ k, Ow k → k < W.heap.size) : IterAt Tryd.prog 80 #[.pointer (some ⟨c, 0, none⟩)] int1 (elems F) Ow W := by
  intro n lp J Jx hJ hJx hY h0
  refine callsIn_wide.2 ?_
  refine calls_of_wp_marks Tryd.func80 rfl ?_
  simp only [Tryd.ntmps80, List.size_toArray, List.length_cons, List.length_nil, Nat.reduceAdd, Nat.reduceSub, Array.replicate_succ, Array.replicate_zero, List.push_toArray, List.append_toArray, List.nil_append, List.cons_append]
  have hs1 : Same W (W.alloc (.cells #[.func (.yield lp) #[] #[]] 69)) := Chg.alloc _ _ _
  obtain ⟨c0, c1, c2, c3⟩ := (M.same hs1).cells
  have hcc : (W.alloc (.cells #[.func (.yield lp) #[] #[]] 69)).cell? ⟨c, 0, none⟩ = some (at0 m) := (hc.same hs1).cell 0
  have hm := M.blk.lt
  have hcl := hc.lt
  have HM := Lib.hid M
  have HT := Lib.hid hT
  have HC := Lib.hid hc
  have HO := Lib.hid hO
  have HV := Lib.hid hv
  have HJ := Lib.hid hJ
  have HJx := Lib.hid hJx
  have HY := Lib.hid hY
  have H0 := Lib.hid h0
  clear M hT hc hO hv hJ hJx hY h0
  go_wp2_with fail
  go_at_call 74; refine (xmade c0).mono ?_; rintro e w1 ⟨rfl, rfl⟩
  go_wp2_with fail
  go_at_call 67; refine (xall f _).mono ?_; rintro e w1 ⟨rfl, rfl⟩
  go_wp2_with fail
  try simp only [World.size_alloc]
  have hsz : ((W.alloc (.cells #[.func (.yield lp) #[] #[]] 69)).alloc (.cells #[.pointer (some ⟨f, 0, none⟩)] 23)).heap.size = W.heap.size + 1 + 1 := by simp
  have hs2 : Same W ((W.alloc (.cells #[.func (.yield lp) #[] #[]] 69)).alloc (.cells #[.pointer (some ⟨f, 0, none⟩)] 23)) := (Chg.alloc _ _ _).trans (Chg.alloc _ _ _)
  refine wpIn_wide.1 (range_law (n := 3) (gf := 92) (lb := #[.pointer (some ⟨W.heap.size + 1, 0, none⟩)]) rfl (enters_of Tryd.func92 (by kernel_rfl) rfl) (encs := int1) (xs := elems F) Ow ?hO ?hit (fun _ => rfl)
    (AllI J W.heap.size m c f fw h hw o ow s sw lp F H O S) (fun cd i O1 W1 => AllX Jx cd i O1 W1) ?hI ?hIx ?h0 ?round ?done ?stop)
  case hO => intro k hk; rw [hsz]; have := HV.out k hk; omega
  case hit =>
    intro O1 W1 hs hO1 hv1
    have hw1 : Same W W1 := hs2.trans hs
    have hf := HM.out.sf.lt
    have h00 := HT.out.pos
    have hno : ∀ k, (k = f ∨ k = fw ∨ k = 0 ∨ k = W.heap.size + 1) → ¬ O1 k := fun k hk h => by
      rcases hO1 k h with e | e
      · have h1 := HO.out k e
        have h2 := HV.out k e
        rcases hk with rfl | rfl | rfl | rfl
        · exact h1.1 (by simp [own9])
        · exact h1.1 (by simp [own9])
        · exact h1.2.2 rfl
        · omega
      · rw [hsz] at e
        rcases hk with rfl | rfl | rfl | rfl <;> omega
    have hcap := (Blk.newA (W.alloc (.cells #[.func (.yield lp) #[] #[]] 69)) 23 #[.pointer (some ⟨f, 0, none⟩)]).same hs
    simp only [World.size_alloc] at hcap
    exact xall_iter (HM.out.sf.same hw1) (HT.out.same hw1) hcap ⟨hno _ (.inl rfl), hno _ (.inr (.inl rfl)), hno _ (.inr (.inr (.inr rfl))), hno _ (.inr (.inr (.inl rfl)))⟩ hv1
  case hI =>
    rintro i O1 W1 W2 ⟨h1, h2, h3, h4, h5⟩ hA
    rw [hsz] at hA
    have hml : ∀ k, own9 m f fw h hw o ow s sw k → k < W.heap.size := fun k hk => HM.out.lt hk
    exact ⟨HJ.out _ _ _ _ h1 (hA.mono (fun j _ hj => ⟨by omega, hj.2⟩)), h2.keep hA (fun k hk hj => by have := hml k hk; omega), h3.keep hA (fun hj => by omega), h4, Nat.le_trans h5 hA.size⟩
  case hIx =>
    rintro cd i O1 W1 W2 ⟨h1, h2⟩ hA
    rw [hsz] at hA
    exact ⟨h1, HJx.out _ _ _ _ h2 (hA.mono (fun j _ hj => ⟨by omega, hj.2⟩))⟩
  case h0 =>
    refine ⟨HJ.out _ _ _ _ H0.out (Same.to hs2), HM.out.same hs2, (Blk.newA W 69 #[.func (.yield lp) #[] #[]]).alloc _, fun k hk => ?_, by rw [hsz]; omega⟩
    have := HO.out k hk
    have h2 := HV.out k hk
    exact ⟨this.1, this.2.1, this.2.2, by omega⟩
  case round =>
    intro n' l' i hi O1 W1 hI1 hv1
    gi_wp2
    refine RoundThen.mk fun W2 ⟨h1, h2, h3, h4, h5⟩ hv2 => ?_
    have hy2 : W2.cell? ⟨W.heap.size, 0, none⟩ = some (.func (.yield lp) #[] #[]) := h3.cell 0
    obtain ⟨fn, tmps, assign, body, hy, hR⟩ := HY.out i hi O1 W2 h1 hv2
    have HRR := Lib.hid hR
    have HI := Lib.hid (⟨h1, h2, h3, h4, h5⟩ : AllI J W.heap.size m c f fw h hw o ow s sw lp F H O S i O1 W2)
    clear hR h1 h2 h3 h4 h5 hI1
    gi_wp2
    refine (roundAnyR HRR.out).mono ?_
    obtain ⟨h1, h2, h3, h4, h5⟩ := HI.out
    rintro e W3 ⟨O', hown, (⟨rfl, hJ'⟩ | ⟨rfl, hJx'⟩)⟩
    · have hbox := h3.lt
      have k2 : MapOf W3 m f fw h hw o ow s sw F H O S := h2.keep hown.chg (fun k hk hj => (h4 k hj).1 hk)
      have k3 : Blk W3 W.heap.size 69 [.func (.yield lp) #[] #[]] := h3.keep hown.chg (fun hj => (h4 _ hj).2.2.2 rfl)
      have k4 : ∀ k, O' k → ¬ own9 m f fw h hw o ow s sw k ∧ k ≠ c ∧ k ≠ 0 ∧ k ≠ W.heap.size := fun k hk => by
        rcases hown.grow k hk with e | e
        · exact h4 k e
        · exact ⟨fun hk9 => by have := h2.lt hk9; omega, by omega, by omega, by omega⟩
      have KK := Lib.hid (⟨hown, hJ', k2, k3, k4, Nat.le_trans h5 hown.chg.size⟩ : Owns O1 O' W2 W3 ∧ AllI J W.heap.size m c f fw h hw o ow s sw lp F H O S (i + 1) O' W3)
      clear h1 h2 h3 h4 h5 hown hJ' k2 k3 k4 hbox
      gi_wp2
      exact ⟨O', KK.out⟩
    · have KK := Lib.hid (⟨hown, rfl, hJx'⟩ : Owns O1 O' W2 W3 ∧ AllX Jx .ret (i + 1) O' W3)
      clear h1 h2 h3 h4 h5 hown hJx'
      gi_wp2
      exact ⟨O', KK.out⟩
  case done =>
    rintro D O1 W1 hD hnD ⟨h1, h2, h3, h4, h5⟩ hv1 hK
    rw [hsz] at hD
    have hJ2 := HJ.out _ _ _ (W1.putObj D (.deferred none)) h1 (Chg.putObj (S := fun k => W.heap.size ≤ k ∧ ¬ O1 k) W1 ⟨by omega, hnD⟩ _)
    have HX := Lib.hid hJ2
    clear h1 h2 h3 h4 h5 hJ2
    go_wp2_with fail
    refine marks_end (fun w' => results_none rfl _ _ w') rfl hK ?_
    exact ⟨⟨_, rfl⟩, O1, .inl HX.out⟩
  case stop =>
    rintro D cd i O1 W1 hD hnD hle ⟨rfl, h1⟩ hv1 hK
    rw [hsz] at hD
    have hJ2 := HJx.out _ _ _ (W1.putObj D (.deferred none)) h1 (Chg.putObj (S := fun k => W.heap.size ≤ k ∧ ¬ O1 k) W1 ⟨by omega, hnD⟩ _)
    have HX := Lib.hid hJ2
    clear h1 hJ2
    refine wpIn_wide.2 ?_
    go_wp2_with fail
    try rw [Exit.noGoto_ret]
    refine marks_one (fun w' => results_none rfl _ _ w') rfl hK ?_
    exact ⟨⟨_, rfl⟩, O1, .inr ⟨i, hle, HX.out⟩⟩

end Go.Proofs.YtbebjpdbnpdpfaaDoor
