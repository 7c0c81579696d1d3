/- The walks of package freemap: the first row of so many free pages. -/
import Derived.Test.YtbebjpdbnpdpfaaDoorB2
set_option maxRecDepth 100000
set_option linter.unusedVariables false
set_option linter.unusedSimpArgs false
namespace Go.Proofs.YtbebjpdbnpdpfaaDoor
open Go.RowKit Go.Shelf
attribute [local go_sem] Oper.semAt_some wide_fn wide_depth

theorem frow {w : World} {m f fw h hw o ow s sw : Nat} {F H O S : List Bool} (M : MapOf w m f fw h hw o ow s sw F H O S) (hT : Tab w) (n : Int) (hn1 : 1 ≤ n) :
    Calls Tryd.prog 75 #[at0 m, .int .i64 n] w fun e w' => e = .returned (.int .i64 (runN F n)) ∧ Same w w' := by
  obtain ⟨c0, c1, c2, c3⟩ := M.cells
  have hS := M.sf
  have c0' : ((w.alloc (.cells #[.int .i64 n] 3)).alloc (.cells #[.int .i64 (-1)] 3)).cell? ⟨m, 0, none⟩ = some (at0 f) := (M.blk.same ((Chg.alloc _ _ _).trans (Chg.alloc _ _ _))).cell 0
  have hm := M.blk.lt
  clear M
  refine calls_of_wp_marks Tryd.func75 rfl ?_
  simp only [Tryd.ntmps75, List.size_toArray, List.length_cons, List.length_nil, Nat.reduceAdd, Nat.reduceSub, Array.replicate_succ, Array.replicate_zero, List.push_toArray, List.append_toArray, List.nil_append, List.cons_append]
  have HS := Lib.hid hS
  have HT := Lib.hid hT
  clear hS hT
  have hn : ¬ n < 1 := by omega
  go_wp2
  go_step3
  go_wp2
  go_step3
  go_wp2_with (go_at_call 50; refine (xruns _ _).mono ?_; rintro e w' ⟨rfl, rfl⟩)
  refine wpIn_wide.1 (range_law (n := 3) (gf := 89) (lb := #[.pointer (some ⟨w.heap.size + 1 + 1, 0, none⟩)]) rfl (enters_of Tryd.func89 (by kernel_rfl) rfl) (encs := int2) (xs := runsB F) (fun k => k = w.heap.size + 1) ?hO ?hit (fun _ => rfl)
    (RunI w F n) (RunX w F n) ?hI ?hIx ?h0 ?round ?done ?stop)
  case hO => intro k hk; simp; omega
  case hit =>
    intro O1 W1 hs hO hv
    have hw : Same w W1 := Chg.trans (((Chg.alloc _ _ _).trans (Chg.alloc _ _ _)).trans (Chg.alloc _ _ _)) hs
    have hlt := HS.out.lt
    have h0 := HT.out.pos
    have hno : ∀ k, k < w.heap.size ∨ k = w.heap.size + 1 + 1 → ¬ O1 k := fun k hk h => by
      have := hO k h
      simp at this
      omega
    have hcap := (Blk.newA ((w.alloc (.cells #[.int .i64 n] 3)).alloc (.cells #[.int .i64 (-1)] 3)) 23 #[.pointer (some ⟨f, 0, none⟩)]).same hs
    simp only [World.size_alloc] at hcap
    exact xruns_iter (HS.out.same hw) (HT.out.same hw) hcap ⟨hno _ (.inl hlt.1), hno _ (.inl hlt.2), hno _ (.inr rfl), hno _ (.inl h0)⟩ hv
  case hI =>
    rintro i O W W' ⟨h1, h2, h3, h4, h5⟩ hc
    simp only [World.size_alloc] at hc
    exact ⟨h1, h2.keep hc (fun h => h.2 ((h1 _).2 rfl)), h3.keep hc (fun h => by omega), h4.trans' hc (fun j hj h => by omega), h5⟩
  case hIx =>
    rintro c i O W W' ⟨h0, r, h1, h2, h3, h4⟩ hc
    simp only [World.size_alloc] at hc
    exact ⟨h0, r, h1, h2, h3.keep hc (fun h => h.2 h2), h4.trans' hc (fun j hj h => by omega)⟩
  case h0 =>
    have e1 := (Blk.newA (w.alloc (.cells #[.int .i64 n] 3)) 3 #[.int .i64 (-1)]).alloc (.cells #[.pointer (some ⟨f, 0, none⟩)] 23)
    have e2 := ((Blk.newA w 3 #[.int .i64 n]).alloc (.cells #[.int .i64 (-1)] 3)).alloc (.cells #[.pointer (some ⟨f, 0, none⟩)] 23)
    simp only [World.size_alloc] at e1
    exact ⟨fun k => Iff.rfl, e1, e2, ((Chg.alloc _ _ _).trans (Chg.alloc _ _ _)).trans (Chg.alloc _ _ _), fun j r h => by omega⟩
  case round =>
    intro n' l' i hi O1 W hI hv
    gi_wp2
    refine RoundThen.mk fun W2 ⟨h1, h2, h3, h4, h5⟩ hv2 => ?_
    have hcn : W2.cell? ⟨w.heap.size, 0, none⟩ = some (.int .i64 n) := h3.cell 0
    have hca : W2.cell? ⟨w.heap.size + 1, 0, none⟩ = some (.int .i64 (-1)) := h2.cell 0
    have hcf : W2.frozen? ⟨w.heap.size + 1, 0, none⟩ = false := h2.frozen 0
    obtain ⟨r, hr⟩ : ∃ r, (runsB F)[i] = r := ⟨_, rfl⟩
    have HR := Lib.hid (⟨h1, h2, h3, h4, h5⟩ : RunI w F n i O1 W2)
    clear h1 h2 h3 h4 h5 hI
    by_cases hge : n ≤ r.2
    · have hge' : n ≤ ((runsB F)[i]).2 := by rw [hr]; exact hge
      clear hr
      gi_wp2
      obtain ⟨h1, h2, h3, h4, h5⟩ := HR.out
      refine ⟨O1, ⟨Chg.setCell _ ((h1 _).2 rfl) _, fun k hk => .inl hk, fun k hk => ?_⟩, rfl, (runsB F)[i], ?_, (h1 _).2 rfl, h2.set 0 _, h4.trans' (Chg.setCell (S := fun k => k = w.heap.size + 1) _ rfl _) (fun j hj h => by omega)⟩
      · have := hv2 k hk
        have := (Chg.setCell (S := fun k => k = w.heap.size + 1) W2 (p := ⟨w.heap.size + 1, 0, none⟩) rfl (.int .i64 ((runsB F)[i]).1)).size
        omega
      · rw [List.find?_eq_some_iff_getElem]
        refine ⟨by simpa using hge', i, hi, rfl, fun j hj => ?_⟩
        have := h5 j _ hj (List.getElem?_eq_getElem (by omega))
        simpa using this
    · have hge' : ¬ n ≤ ((runsB F)[i]).2 := by rw [hr]; exact hge
      clear hr
      gi_wp2
      obtain ⟨h1, h2, h3, h4, h5⟩ := HR.out
      refine ⟨O1, ⟨Chg.refl _ _, fun k hk => .inl hk, hv2⟩, h1, h2, h3, h4, fun j r hj hr => ?_⟩
      by_cases e : j = i
      · subst e
        rw [List.getElem?_eq_getElem hi] at hr
        cases hr
        omega
      · have := h5 j r (by omega) hr
        omega
  case done =>
    rintro D O1 W hD hnD ⟨h1, h2, h3, h4, h5⟩ hv hK
    have hca : W.cell? ⟨w.heap.size + 1, 0, none⟩ = some (.int .i64 (-1)) := h2.cell 0
    clear h1 h2 h3
    go_wp2
    try rw [Exit.noGoto_ret]
    refine marks_one (fun w' => results_tmp rfl _ _ w') rfl hK ?_
    simp only [World.size_alloc] at hD
    refine ⟨ret_int ?_, h4.trans' (Chg.putObj (S := fun k => k = D) W rfl _) (fun j hj h => by omega)⟩
    unfold runN
    rw [if_neg (by omega), List.find?_eq_none.2]
    intro x hx
    obtain ⟨j, hj, rfl⟩ := List.mem_iff_getElem.1 hx
    have := h5 j _ hj (List.getElem?_eq_getElem hj)
    simp
    omega
  case stop =>
    rintro D c i O1 W hD hnD hle ⟨rfl, r, h1, h2, h3, h4⟩ hv hK
    have hca : W.cell? ⟨w.heap.size + 1, 0, none⟩ = some (.int .i64 (r.1 : Nat)) := h3.cell 0
    refine wpIn_wide.2 ?_
    go_wp2
    try rw [Exit.noGoto_ret]
    refine marks_one (fun w' => results_tmp rfl _ _ w') rfl hK ?_
    simp only [World.size_alloc] at hD
    refine ⟨ret_int ?_, h4.trans' (Chg.putObj (S := fun k => k = D) W rfl _) (fun j hj h => by omega)⟩
    unfold runN
    rw [if_neg (by omega), h1]

end Go.Proofs.YtbebjpdbnpdpfaaDoor
