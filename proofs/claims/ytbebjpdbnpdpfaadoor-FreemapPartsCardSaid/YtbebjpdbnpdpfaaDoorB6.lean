/- The walks of package freemap: the commit. -/
import Derived.Test.YtbebjpdbnpdpfaaDoorB5
set_option maxRecDepth 100000
set_option linter.unusedVariables false
set_option linter.unusedSimpArgs false
namespace Go.Proofs.YtbebjpdbnpdpfaaDoor
open Go.RowKit Go.Shelf
attribute [local go_sem] Oper.semAt_some wide_fn wide_depth eql_func67 eql_func89

theorem Tab.ne {w : World} {b bw : Nat} {l : List Bool} (hT : Tab w) (h : SetAt w b bw l) : b ≠ 0 ∧ bw ≠ 0 := by
  have ht := hT 0 0 rfl
  obtain ⟨h0, h1, h2, ws, sp, cap, hB, hst, hwd⟩ := h
  constructor
  · rintro rfl
    have := hst.cell 0
    rw [ht] at this
    simp at this
  · rintro rfl
    have := hwd.cell 0
    rw [ht] at this
    have hl := hB.len
    have hws : 0 < ws.length := by omega
    rw [u64s_get sp hws] at this
    simp at this

def CommitI (w : World) (m f fw h hw o ow s sw : Nat) (F H O S : List Bool) (i : Nat) (Ow : Nat → Prop) (W : World) : Prop :=
  (∀ k, Ow k ↔ k = fw) ∧ Blk W w.heap.size 39 [at0 m] ∧ MapOf W m f fw h hw o ow s sw (addAll F ((elems H).take i)) H O S ∧ Chg (fun k => k = fw) w W
def CommitX (c : Code) (i : Nat) (Ow : Nat → Prop) (W : World) : Prop := False

theorem fcommit {w : World} {m f fw h hw o ow s sw : Nat} {F H O S : List Bool} (M : MapOf w m f fw h hw o ow s sw F H O S) (hT : Tab w) :
    Calls Tryd.prog 26 #[at0 m] w fun e w' => e = .returned (.int .i64 0) ∧ ∃ h' hw' o' ow' s' sw', MapOf w' m f fw h' hw' o' ow' s' sw' (addAll F (elems H)) (List.replicate F.length false) (List.replicate F.length false) (addAll F (elems H)) ∧ Chg (fun k => k = fw ∨ k = m) w w' ∧ w.heap.size ≤ h' ∧ w.heap.size ≤ hw' ∧ w.heap.size ≤ o' ∧ w.heap.size ≤ ow' ∧ w.heap.size ≤ s' ∧ w.heap.size ≤ sw' := by
  refine calls_of_wp_marks Tryd.func26 rfl ?_
  simp only [Tryd.ntmps26, List.size_toArray, List.length_cons, List.length_nil, Nat.reduceAdd, Nat.reduceSub, Array.replicate_succ, Array.replicate_zero, List.push_toArray, List.append_toArray, List.nil_append, List.cons_append]
  have M1 := M.same (Chg.alloc _ w (.cells #[at0 m] 39))
  obtain ⟨c0, c1, c2, c3⟩ := M1.cells
  have hm := M.blk.lt
  have HM := Lib.hid M
  have HT := Lib.hid hT
  clear M hT M1
  go_wp2_with fail
  go_at_call 74; refine (xmade c0).mono ?_; rintro e w1 ⟨rfl, rfl⟩
  go_wp2_with fail
  go_at_call 67; refine (xall h _).mono ?_; rintro e w1 ⟨rfl, rfl⟩
  go_wp2_with fail
  try simp only [World.size_alloc]
  refine wpIn_wide.1 (range_law (n := 3) (gf := 92) (lb := #[.pointer (some ⟨w.heap.size + 1, 0, none⟩)]) rfl (enters_of Tryd.func92 (by kernel_rfl) rfl) (encs := int1) (xs := elems H) (fun k => k = fw) ?hO ?hit (fun _ => rfl)
    (CommitI w m f fw h hw o ow s sw F H O S) (fun c i Ow W => CommitX c i Ow W) ?hI ?hIx ?h0 ?round ?done ?stop)
  case hO =>
    intro k hk
    have := HM.out.sf.lt
    simp
    omega
  case hit =>
    intro O1 W1 hs hO hv
    have hw1 : Same w W1 := Chg.trans ((Chg.alloc _ _ _).trans (Chg.alloc _ _ _)) hs
    have hlt := HM.out.sh.lt
    have h0 := HT.out.pos
    have hne := HT.out.ne HM.out.sf
    have hap := HM.out.sf.apart HM.out.sh
    have hd2 := HM.out.d2
    have hf := HM.out.sf.lt
    have hno : ∀ k, k ≠ fw → k < w.heap.size + 1 + 1 → ¬ O1 k := fun k hk hk2 h => by
      rcases hO k h with e | e
      · exact hk e
      · simp at e; omega
    have hcap := (Blk.newA (w.alloc (.cells #[at0 m] 39)) 23 #[.pointer (some ⟨h, 0, none⟩)]).same hs
    simp only [World.size_alloc] at hcap
    exact xall_iter (HM.out.sh.same hw1) (HT.out.same hw1) hcap ⟨hno _ (by omega) (by omega), hno _ (by omega) (by omega), hno _ (by omega) (by omega), hno _ (by omega) (by omega)⟩ hv
  case hI =>
    rintro i Ow W W' ⟨h1, h2, h3, h4⟩ hc
    simp only [World.size_alloc] at hc
    exact ⟨h1, h2.keep hc (fun h => by omega), h3.keep hc (fun k hk h => by have := HM.out.lt hk; omega), h4.trans' hc (fun j hj h => by omega)⟩
  case hIx =>
    rintro c i Ow W W' h hc
    exact h.elim
  case h0 =>
    have e1 : Same w ((w.alloc (.cells #[at0 m] 39)).alloc (.cells #[.pointer (some ⟨h, 0, none⟩)] 23)) := (Chg.alloc _ _ _).trans (Chg.alloc _ _ _)
    exact ⟨fun k => Iff.rfl, (Blk.newA w 39 #[at0 m]).alloc _, HM.out.same e1, Same.to e1⟩
  case round =>
    intro n' l' i hi O1 W hI hv
    gi_wp2
    refine RoundThen.mk fun W2 ⟨h1, h2, h3, h4⟩ hv2 => ?_
    have hcm : W2.cell? ⟨w.heap.size, 0, none⟩ = some (at0 m) := h2.cell 0
    obtain ⟨d0, d1, d2, d3⟩ := h3.cells
    have HR := Lib.hid (⟨h1, h2, h3, h4⟩ : CommitI w m f fw h hw o ow s sw F H O S i O1 W2)
    clear h1 h2 h3 h4 hI
    gi_wp2_with fail
    gi_at_call 14; refine (callsIn_wide.2 (xadd HR.out.2.2.1.sf _)).mono ?_; rintro e W3 ⟨rfl, hA, hC⟩
    have HA := Lib.hid (⟨hA, hC⟩ : _ ∧ _)
    clear hA hC
    gi_wp2
    obtain ⟨h1, h2, h3, h4⟩ := HR.out
    have hfw := HM.out.sf.lt
    refine ⟨O1, ⟨HA.out.2.mono (fun j _ e => (h1 j).2 e), fun k hk => .inl hk, fun k hk => Nat.lt_of_lt_of_le (hv2 k hk) HA.out.2.size⟩, h1, h2.keep HA.out.2 (fun e => by omega), ?_, h4.trans HA.out.2⟩
    have := h3.setF HA.out.1 HA.out.2
    rwa [addAll_snoc hi] at this
  case done =>
    rintro D O1 W hD hnD ⟨h1, h2, h3, h4⟩ hv hK
    rw [List.take_length] at h3
    have hcm : W.cell? ⟨w.heap.size, 0, none⟩ = some (at0 m) := h2.cell 0
    simp only [World.size_alloc] at hD
    have hDW : D < W.heap.size := (Array.getElem?_eq_some_iff.1 hK).1
    have hlF : (addAll F (elems H)).length = F.length := by
      have : ∀ (xs : List Nat) (l : List Bool), (addAll l xs).length = l.length := by
        intro xs
        induction xs with
        | nil => intro l; rfl
        | cons x xs ih => intro l; unfold addAll at ih ⊢; rw [List.foldl_cons, ih, addL_len]
      exact this _ _
    have H3 := Lib.hid h3
    have H4 := Lib.hid h4
    clear h1 h2 h3 h4
    go_wp2_with fail
    go_at_call 72; refine (fsettle H3.out.blk H3.out.sf).mono ?_; rintro e W2 ⟨⟨v, rfl⟩, h', hw', o', ow', s', sw', hM2, hC2, l1, l2, l3, l4, l5, l6⟩
    have HX := Lib.hid (⟨hM2, hC2, l1, l2, l3, l4, l5, l6⟩ : _ ∧ _ ∧ _ ∧ _ ∧ _ ∧ _ ∧ _ ∧ _)
    have hK2 : W2.heap[D]? = some (.deferred (some [])) := (hC2.keep D hDW (by omega)).trans hK
    clear hM2 hC2 l1 l2 l3 l4 l5 l6
    go_wp2_with fail
    try rw [Exit.noGoto_ret]
    refine marks_one (fun w' => results_tmp rfl _ _ w') rfl hK2 ?_
    obtain ⟨hM2, hC2, l1, l2, l3, l4, l5, l6⟩ := HX.out
    have hP : Chg (fun k => k = D) W2 (W2.putObj D (.deferred none)) := Chg.putObj (S := fun k => k = D) _ rfl _
    have hf := HM.out.sf.lt
    rw [hlF] at hM2
    refine ⟨rfl, h', hw', o', ow', s', sw', hM2.keep hP (fun k hk e => ?_), ((H4.out.mono (fun j _ e => .inl e)).trans' hC2 (fun j _ e => .inr e)).trans' hP (fun j hj e => by omega), ?_⟩
    rotate_left
    · have := H4.out.size; omega
    rcases hk with h | h | h | h | h | h | h | h | h <;> omega
  case stop =>
    rintro D c i O1 W hD hnD hle h hv hK
    exact h.elim

end Go.Proofs.YtbebjpdbnpdpfaaDoor
