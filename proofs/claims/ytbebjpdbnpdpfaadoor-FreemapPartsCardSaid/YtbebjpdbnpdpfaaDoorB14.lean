/- The walks of the laws of package freemap: pages that are told, gathered; the free pages of a map, told. -/
import Derived.Test.YtbebjpdbnpdpfaaDoorB13
set_option maxRecDepth 100000
set_option linter.unusedVariables false
set_option linter.unusedSimpArgs false
namespace Go.Proofs.YtbebjpdbnpdpfaaDoor
open Go.RowKit Go.Shelf
attribute [local go_sem] Oper.semAt_some wide_fn wide_depth eql_func67 eql_func89

set_option maxHeartbeats 4000000 in
theorem ftold {w : World} {gf : Nat} {lb : Array Value} {xs : List Nat} (eg : ∀ args w, (callFunc gf args).run Tryd.prog w = .ok (.enter gf args) w) (hx : xs.length ≤ 4096)
    (hit : ∀ O1 W1, Same w W1 → (∀ k, O1 k → w.heap.size ≤ k) → (∀ k, O1 k → k < W1.heap.size) → IterAt Tryd.prog gf lb int1 xs O1 W1) (most : Int) :
    Calls Tryd.prog 40 #[.func (.func gf) #[] lb, .int .i64 most] w fun e w' => ∃ v, e = .returned v ∧ NewInts w w' v (xs.take most.toNat) := by
  refine calls_of_wp_marks Tryd.func40 rfl ?_
  simp only [Tryd.ntmps40, List.size_toArray, List.length_cons, List.length_nil, Nat.reduceAdd, Nat.reduceSub, Array.replicate_succ, Array.replicate_zero, List.push_toArray, List.append_toArray, List.nil_append, List.cons_append]
  obtain ⟨i0, hinf, hz0, hz1, hz2⟩ := info_parts info3
  have HIT := Lib.hid hit
  have EG := Lib.hid eg
  clear hit eg
  go_wp2
  refine wpIn_wide.1 (range_law (n := 3) (gf := gf) (lb := lb) rfl EG.out (encs := int1) (xs := xs) (fun k => k = w.heap.size + 1) ?hO ?hit (fun _ => rfl)
      (PagesI w xs most) (PagesX w xs most) ?hI ?hIx ?h0 ?round ?done ?stop)
  case hO => intro k hk; simp; omega
  case hit =>
    intro O1 W1 hs hO hv
    refine HIT.out O1 W1 (Chg.trans ((Chg.alloc _ _ _).trans (Chg.alloc _ _ _)) hs) (fun k hk => ?_) hv
    have := hO k hk
    simp at this
    omega
  case hI =>
    rintro i O W W' ⟨v, h1, h2, h3, h4, h5, h6, h7⟩ hc
    simp only [World.size_alloc] at hc
    exact ⟨v, h1.keep hc (fun h => h.2 ((h3 _).2 (.inl rfl))), h2.keep hc (fun g hg h => h.2 ((h3 _).2 (.inr hg))), h3, h4, h5.keep hc (fun h => by omega), h6.trans' hc (fun j hj h => by omega), h7⟩
  case hIx =>
    rintro c i O W W' ⟨h0, v, h1, h2, h3, h4, h6⟩ hc
    simp only [World.size_alloc] at hc
    exact ⟨h0, v, h1.keep hc (fun h => h.2 ((h3 _).2 (.inl rfl))), h2.keep hc (fun g hg h => h.2 ((h3 _).2 (.inr hg))), h3, h4, h6.trans' hc (fun j hj h => by omega)⟩
  case h0 =>
    have e1 := Blk.newA (w.alloc (.cells #[.int .i64 most] 3)) 37 #[.slice none 0 0]
    have e2 := (Blk.newA w 3 #[.int .i64 most]).alloc (.cells #[.slice none 0 0] 37)
    simp only [World.size_alloc] at e1
    exact ⟨.slice none 0 0, e1, Row.nil _ _, fun k => by simp [Value.ownBlock], fun g hg => by simp [Value.ownBlock] at hg, e2, (Chg.alloc _ _ _).trans (Chg.alloc _ _ _), Nat.zero_le _⟩
  case round =>
    intro n' l' i hi O1 W hI hv
    gi_wp2
    refine RoundThen.mk fun W2 ⟨v, h1, h2, h3, h4, h5, h6, h7⟩ hv2 => ?_
    obtain ⟨a, cap, hva, hcap, ha, hvw, _⟩ := h2.form
    have hll : (ints (xs.take i)).length = i := by rw [ints_len, List.length_take]; omega
    rw [hll] at hva hcap
    have hcl : W2.cell? ⟨w.heap.size + 1, 0, none⟩ = some (.slice a i cap) := by rw [← hva]; exact h1.cell 0
    have hcm : W2.cell? ⟨w.heap.size, 0, none⟩ = some (.int .i64 most) := h5.cell 0
    have H := Lib.hid (⟨h1, h2, h3, h4, h5, h6, h7⟩ : Blk W2 (w.heap.size + 1) 37 [v] ∧ Row W2 3 v (ints (xs.take i)) ∧ (∀ k, O1 k ↔ k = w.heap.size + 1 ∨ v.ownBlock = some k) ∧ (∀ g, v.ownBlock = some g → w.heap.size + 1 < g) ∧ Blk W2 w.heap.size 3 [.int .i64 most] ∧ Same w W2 ∧ i ≤ most.toNat)
    have HV := Lib.hid hva
    have hlt2 : w.heap.size + 1 < W2.heap.size := h1.lt
    clear h1 h2 h3 h4 h5 h6 hvw hva hll hI hv ha
    by_cases hge : most ≤ i
    · gi_wp2
      obtain ⟨h1, h2, h3, h4, h5, h6, h7⟩ := H.out
      obtain rfl : i = most.toNat := by omega
      exact ⟨O1, ⟨Chg.refl _ _, fun k hk => .inl hk, hv2⟩, rfl, v, h1, h2, h3, h4, h6⟩
    · gi_wp2_with (gi_at_builtin; refine wpListIn_append_row _ rfl (.tmp 15) (.tmp 17) 37 rfl 3 i0 (.int .i64 0) 8 Tryd.underlying37 hinf hz0 hz1 hz2 rfl (.slice a i cap) (ints (xs.take i)) rfl ?h1 ⟨W2.heap.size, 0, none⟩ 1 1 [.int .i64 (xs[i] : Nat)] rfl rfl ?h3 ?h4 ?h5 ?h6 ?h7)
      case h1 => rw [← HV.out]; exact H.out.2.1.same (Chg.alloc _ _ _)
      case h4 => simp [Value.oneCell']
      case h5 => rw [ints_len, List.length_take]; unfold maxLen; omega
      case h6 => rw [ints_len, List.length_take]; omega
      case h7 =>
        intro v' w1 hr' hc' hg' _
        rw [← HV.out] at hc' hg'
        obtain ⟨h1, h2, h3, h4, h5, h6, h7⟩ := H.out
        obtain ⟨g1, g2, g3, g4, g5⟩ := boxed_append (by decide) h1 h2 hr' hc' hg'
        have hcb := g1.cell 0
        have hfb := g1.frozen 0
        have hone : ∃ a' c', v' = .slice a' (i + 1) c' := by
          obtain ⟨a', c', e, _⟩ := hr'.form
          refine ⟨a', c', ?_⟩
          rw [e, List.length_append, ints_len, List.length_take]; congr 1; simp; omega
        obtain ⟨a', c', hv'⟩ := hone
        subst hv'
        rw [ints_snoc hi] at g3
        have hfin : PagesI w xs most (i + 1) (fun k => k = w.heap.size + 1 ∨ (Value.slice a' (i + 1) c').ownBlock = some k) (w1.setCell ⟨w.heap.size + 1, 0, none⟩ (.slice a' (i + 1) c')) ∧
            Owns O1 (fun k => k = w.heap.size + 1 ∨ (Value.slice a' (i + 1) c').ownBlock = some k) W2 (w1.setCell ⟨w.heap.size + 1, 0, none⟩ (.slice a' (i + 1) c')) := by
          refine ⟨⟨_, g2, g3, fun k => Iff.rfl, fun g hg => ?_, h5.keep g4 (fun h => ?_), h6.trans' g4 (fun j hj h => ?_), by omega⟩, ⟨g4.mono (fun j _ h => (h3 j).2 h), fun k hk => ?_, fun k hk => ?_⟩⟩
          · rcases g5 g hg with e | e
            · exact h4 g e
            · omega
          · rcases h with h | h
            · omega
            · have := h4 _ h; omega
          · rcases h with h | h
            · omega
            · have := h4 _ h; omega
          · rcases hk with h | h
            · exact .inl ((h3 _).2 (.inl h))
            · rcases g5 k h with e | e
              · exact .inl ((h3 _).2 (.inr e))
              · exact .inr e
          · rcases hk with h | h
            · have := g2.lt; omega
            · exact g3.lt h
        have HF := Lib.hid hfin
        clear hfin g1 g2 g3 g4 g5 hr' hc' hg' h1 h2 h3 h4 h5 h6 h7
        gi_wp2
        exact ⟨_, HF.out.2, HF.out.1⟩
  case done =>
    rintro D O1 W hD hnD ⟨v, h1, h2, h3, h4, h5, h6, h7⟩ hv hK
    have hcl : W.cell? ⟨w.heap.size + 1, 0, none⟩ = some v := h1.cell 0
    obtain ⟨a, cap, hva, hcap, ha, hvw, _⟩ := h2.form
    generalize (ints (xs.take xs.length)).length = z at hva
    rw [hva] at hcl
    have HV := Lib.hid hva
    clear h1 h5 hvw hcap ha hva
    go_wp2
    refine marks_one (fun w' => results_tmp rfl _ _ w') rfl hK ?_
    simp only [World.size_alloc] at hD
    refine ⟨v, by rw [HV.out]; rfl, ?_, h6.trans' (Chg.putObj (S := fun k => k = D) W rfl _) (fun j hj h => by omega), fun g hg => by have := h4 g hg; omega⟩
    have e : xs.take most.toNat = xs.take xs.length := by rw [List.take_of_length_le h7, List.take_length]
    rw [e]
    exact h2.keep (Chg.putObj (S := fun k => k = D) W rfl _) (fun g hg e => hnD ((h3 _).2 (.inr (e ▸ hg))))
  case stop =>
    rintro D c i O1 W hD hnD hle ⟨rfl, v, h1, h2, h3, h4, h6⟩ hv hK
    have hcl : W.cell? ⟨w.heap.size + 1, 0, none⟩ = some v := h1.cell 0
    obtain ⟨a, cap, hva, hcap, ha, hvw, _⟩ := h2.form
    generalize (ints (xs.take most.toNat)).length = z at hva
    rw [hva] at hcl
    have HV := Lib.hid hva
    clear h1 hvw hcap ha hva
    refine wpIn_wide.2 ?_
    go_wp2
    refine marks_one (fun w' => results_tmp rfl _ _ w') rfl hK ?_
    simp only [World.size_alloc] at hD
    refine ⟨v, by rw [HV.out]; rfl, ?_, h6.trans' (Chg.putObj (S := fun k => k = D) W rfl _) (fun j hj h => by omega), fun g hg => by have := h4 g hg; omega⟩
    exact h2.keep (Chg.putObj (S := fun k => k = D) W rfl _) (fun g hg e => hnD ((h3 _).2 (.inr (e ▸ hg))))


theorem fall (m : Nat) (w : World) : Calls Tryd.prog 41 #[at0 m] w fun e w' => e = .returned (.func (.func 80) #[] #[.pointer (some ⟨w.heap.size, 0, none⟩)]) ∧ w.alloc (.cells #[at0 m] 39) = w' := by
  go_enter Tryd.func41, Tryd.ntmps41
  go_wp2
  go_ret
  exact ⟨rfl, rfl⟩

end Go.Proofs.YtbebjpdbnpdpfaaDoor
