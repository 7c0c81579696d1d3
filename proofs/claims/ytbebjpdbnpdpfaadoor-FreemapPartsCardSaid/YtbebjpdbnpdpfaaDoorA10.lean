/- The walks of the law of package extent: what an iterator tells, gathered. -/
import Derived.Test.YtbebjpdbnpdpfaaDoorA9
set_option maxRecDepth 100000
set_option linter.unusedVariables false
set_option linter.unusedSimpArgs false
namespace Go.Proofs.YtbebjpdbnpdpfaaDoor
open Go.RowKit Go.Shelf
attribute [local go_sem] Oper.semAt_some wide_fn wide_depth

theorem info3 : (Tryd.prog.info? 3).map (fun i => (i.zero, i.size, i.bytes)) = some (some (.int .i64 0), 1, 8) := by kernel_rfl
theorem eql_func67 (f : Fn) (a lb : Array Value) (w : World) : (binOp .eql 67 (.func f a lb) .nilFunc).run Tryd.prog w = .ok (.bool false) w := by kernel_rfl
theorem eql_func89 (f : Fn) (a lb : Array Value) (w : World) : (binOp .eql 89 (.func f a lb) .nilFunc).run Tryd.prog w = .ok (.bool false) w := by kernel_rfl
attribute [local go_sem] eql_func67 eql_func89
def ints (xs : List Nat) : List Value := xs.map fun x => .int .i64 (x : Nat)
theorem ints_len (xs : List Nat) : (ints xs).length = xs.length := by simp [ints]
theorem ints_snoc {xs : List Nat} {i : Nat} (h : i < xs.length) : ints (xs.take i) ++ [Value.int .i64 (xs[i] : Nat)] = ints (xs.take (i + 1)) := by
  rw [List.take_succ_eq_append_getElem h]; simp only [ints, List.map_append, List.map_cons, List.map_nil]

/-- 'l = append(l, x)', l in a box: behind the append's law, all that is wanted. -/
theorem boxed_append {W w1 : World} {B : Nat} {tb te : TypeId} {v v' : Value} {xs ys : List Value} {tmp : Obj} (hne : tb ≠ te) (hb : Blk W B tb [v]) (hr : Row W te v xs) (hr' : Row w1 te v' ys)
    (hc : Chg (fun k => v.ownBlock = some k) (W.alloc tmp) w1) (hg : ∀ g, v'.ownBlock = some g → v.ownBlock = some g ∨ W.heap.size + 1 ≤ g) :
    Blk w1 B tb [v] ∧ Blk (w1.setCell ⟨B, 0, none⟩ v') B tb [v'] ∧ Row (w1.setCell ⟨B, 0, none⟩ v') te v' ys ∧ Chg (fun k => k = B ∨ v.ownBlock = some k) W (w1.setCell ⟨B, 0, none⟩ v') ∧
      (∀ g, v'.ownBlock = some g → v.ownBlock = some g ∨ W.heap.size ≤ g) := by
  have h1 : Blk w1 B tb [v] := (hb.alloc tmp).keep hc (fun h => hr.ne hb hne h)
  refine ⟨h1, h1.set 0 v', ?_, ?_, ?_⟩
  · refine hr'.keep (Chg.setCell (S := fun k => k = B) w1 rfl v') (fun g hg e => ?_)
    subst e
    exact hr'.ne h1 hne hg
  · exact ((Chg.alloc _ _ _).trans (hc.mono (fun j _ h => .inr h))).trans (Chg.setCell (S := fun k => k = B ∨ v.ownBlock = some k) w1 (.inl rfl) v')
  · intro g h
    rcases hg g h with e | e
    · exact .inl e
    · right; omega

/-- A new slice of ints. -/
def NewInts (w w' : World) (v : Value) (xs : List Nat) : Prop := Row w' 3 v (ints xs) ∧ Same w w' ∧ ∀ g, v.ownBlock = some g → w.heap.size ≤ g

def PagesI (w : World) (xs : List Nat) (most : Int) (i : Nat) (O : Nat → Prop) (W : World) : Prop :=
  ∃ v, Blk W (w.heap.size + 1) 37 [v] ∧ Row W 3 v (ints (xs.take i)) ∧ (∀ k, O k ↔ k = w.heap.size + 1 ∨ v.ownBlock = some k) ∧ (∀ g, v.ownBlock = some g → w.heap.size + 1 < g) ∧ Blk W w.heap.size 3 [.int .i64 most] ∧ Same w W ∧ i ≤ most.toNat
def PagesX (w : World) (xs : List Nat) (most : Int) (c : Code) (i : Nat) (O : Nat → Prop) (W : World) : Prop :=
  c = .exit 0 ∧ ∃ v, Blk W (w.heap.size + 1) 37 [v] ∧ Row W 3 v (ints (xs.take most.toNat)) ∧ (∀ k, O k ↔ k = w.heap.size + 1 ∨ v.ownBlock = some k) ∧ (∀ g, v.ownBlock = some g → w.heap.size + 1 < g) ∧ Same w W

theorem xpages {w : World} {gf : Nat} {lb : Array Value} {xs : List Nat} (eg : ∀ args w, (callFunc gf args).run Tryd.prog w = .ok (.enter gf args) w) (hx : xs.length ≤ 4096)
    (hit : ∀ O1 W1, Same w W1 → (∀ k, O1 k → w.heap.size ≤ k) → (∀ k, O1 k → k < W1.heap.size) → IterAt Tryd.prog gf lb int1 xs O1 W1) (most : Int) :
    Calls Tryd.prog 66 #[.func (.func gf) #[] lb, .int .i64 most] w fun e w' => ∃ v, e = .returned v ∧ NewInts w w' v (xs.take most.toNat) := by
  refine calls_of_wp_marks Tryd.func66 rfl ?_
  simp only [Tryd.ntmps66, List.size_toArray, List.length_cons, List.length_nil, Nat.reduceAdd, Nat.reduceSub, Array.replicate_succ, Array.replicate_zero, List.push_toArray, List.append_toArray, List.nil_append, List.cons_append]
  obtain ⟨i0, hinf, hz0, hz1, hz2⟩ := info_parts info3
  have HIT := Lib.hid hit
  have EG := Lib.hid eg
  clear hit eg
  go_wp2
  refine wpIn_wide.1 (range_law (n := 3) (gf := gf) (lb := lb) rfl EG.out (encs := int1) (xs := xs) (fun k => k = w.heap.size + 1) ?hO ?hit (fun _ => rfl)
      (PagesI w xs most) (PagesX w xs most) ?hI ?hIx ?h0 ?round ?done ?stop)
  case hO => intro k hk; simp; omega
  case hit =>
    intro O1 W1 hs hO hv
    refine HIT.out O1 W1 (Chg.trans ((Chg.alloc _ _ _).trans (Chg.alloc _ _ _)) hs) (fun k hk => ?_) hv
    have := hO k hk
    simp at this
    omega
  case hI =>
    rintro i O W W' ⟨v, h1, h2, h3, h4, h5, h6, h7⟩ hc
    simp only [World.size_alloc] at hc
    exact ⟨v, h1.keep hc (fun h => h.2 ((h3 _).2 (.inl rfl))), h2.keep hc (fun g hg h => h.2 ((h3 _).2 (.inr hg))), h3, h4, h5.keep hc (fun h => by omega), h6.trans' hc (fun j hj h => by omega), h7⟩
  case hIx =>
    rintro c i O W W' ⟨h0, v, h1, h2, h3, h4, h6⟩ hc
    simp only [World.size_alloc] at hc
    exact ⟨h0, v, h1.keep hc (fun h => h.2 ((h3 _).2 (.inl rfl))), h2.keep hc (fun g hg h => h.2 ((h3 _).2 (.inr hg))), h3, h4, h6.trans' hc (fun j hj h => by omega)⟩
  case h0 =>
    have e1 := Blk.newA (w.alloc (.cells #[.int .i64 most] 3)) 37 #[.slice none 0 0]
    have e2 := (Blk.newA w 3 #[.int .i64 most]).alloc (.cells #[.slice none 0 0] 37)
    simp only [World.size_alloc] at e1
    exact ⟨.slice none 0 0, e1, Row.nil _ _, fun k => by simp [Value.ownBlock], fun g hg => by simp [Value.ownBlock] at hg, e2, (Chg.alloc _ _ _).trans (Chg.alloc _ _ _), Nat.zero_le _⟩
  case round =>
    intro n' l' i hi O1 W hI hv
    gi_wp2
    refine RoundThen.mk fun W2 ⟨v, h1, h2, h3, h4, h5, h6, h7⟩ hv2 => ?_
    obtain ⟨a, cap, hva, hcap, ha, hvw, _⟩ := h2.form
    have hll : (ints (xs.take i)).length = i := by rw [ints_len, List.length_take]; omega
    rw [hll] at hva hcap
    have hcl : W2.cell? ⟨w.heap.size + 1, 0, none⟩ = some (.slice a i cap) := by rw [← hva]; exact h1.cell 0
    have hcm : W2.cell? ⟨w.heap.size, 0, none⟩ = some (.int .i64 most) := h5.cell 0
    have H := Lib.hid (⟨h1, h2, h3, h4, h5, h6, h7⟩ : Blk W2 (w.heap.size + 1) 37 [v] ∧ Row W2 3 v (ints (xs.take i)) ∧ (∀ k, O1 k ↔ k = w.heap.size + 1 ∨ v.ownBlock = some k) ∧ (∀ g, v.ownBlock = some g → w.heap.size + 1 < g) ∧ Blk W2 w.heap.size 3 [.int .i64 most] ∧ Same w W2 ∧ i ≤ most.toNat)
    have HV := Lib.hid hva
    have hlt2 : w.heap.size + 1 < W2.heap.size := h1.lt
    clear h1 h2 h3 h4 h5 h6 hvw hva hll hI hv ha
    by_cases hge : most ≤ i
    · gi_wp2
      obtain ⟨h1, h2, h3, h4, h5, h6, h7⟩ := H.out
      obtain rfl : i = most.toNat := by omega
      exact ⟨O1, ⟨Chg.refl _ _, fun k hk => .inl hk, hv2⟩, rfl, v, h1, h2, h3, h4, h6⟩
    · gi_wp2_with (gi_at_builtin; refine wpListIn_append_row _ rfl (.tmp 15) (.tmp 17) 37 rfl 3 i0 (.int .i64 0) 8 Tryd.underlying37 hinf hz0 hz1 hz2 rfl (.slice a i cap) (ints (xs.take i)) rfl ?h1 ⟨W2.heap.size, 0, none⟩ 1 1 [.int .i64 (xs[i] : Nat)] rfl rfl ?h3 ?h4 ?h5 ?h6 ?h7)
      case h1 => rw [← HV.out]; exact H.out.2.1.same (Chg.alloc _ _ _)
      case h4 => simp [Value.oneCell']
      case h5 => rw [ints_len, List.length_take]; unfold maxLen; omega
      case h6 => rw [ints_len, List.length_take]; omega
      case h7 =>
        intro v' w1 hr' hc' hg' _
        rw [← HV.out] at hc' hg'
        obtain ⟨h1, h2, h3, h4, h5, h6, h7⟩ := H.out
        obtain ⟨g1, g2, g3, g4, g5⟩ := boxed_append (by decide) h1 h2 hr' hc' hg'
        have hcb := g1.cell 0
        have hfb := g1.frozen 0
        have hone : ∃ a' c', v' = .slice a' (i + 1) c' := by
          obtain ⟨a', c', e, _⟩ := hr'.form
          refine ⟨a', c', ?_⟩
          rw [e, List.length_append, ints_len, List.length_take]; congr 1; simp; omega
        obtain ⟨a', c', hv'⟩ := hone
        subst hv'
        rw [ints_snoc hi] at g3
        have hfin : PagesI w xs most (i + 1) (fun k => k = w.heap.size + 1 ∨ (Value.slice a' (i + 1) c').ownBlock = some k) (w1.setCell ⟨w.heap.size + 1, 0, none⟩ (.slice a' (i + 1) c')) ∧
            Owns O1 (fun k => k = w.heap.size + 1 ∨ (Value.slice a' (i + 1) c').ownBlock = some k) W2 (w1.setCell ⟨w.heap.size + 1, 0, none⟩ (.slice a' (i + 1) c')) := by
          refine ⟨⟨_, g2, g3, fun k => Iff.rfl, fun g hg => ?_, h5.keep g4 (fun h => ?_), h6.trans' g4 (fun j hj h => ?_), by omega⟩, ⟨g4.mono (fun j _ h => (h3 j).2 h), fun k hk => ?_, fun k hk => ?_⟩⟩
          · rcases g5 g hg with e | e
            · exact h4 g e
            · omega
          · rcases h with h | h
            · omega
            · have := h4 _ h; omega
          · rcases h with h | h
            · omega
            · have := h4 _ h; omega
          · rcases hk with h | h
            · exact .inl ((h3 _).2 (.inl h))
            · rcases g5 k h with e | e
              · exact .inl ((h3 _).2 (.inr e))
              · exact .inr e
          · rcases hk with h | h
            · have := g2.lt; omega
            · exact g3.lt h
        have HF := Lib.hid hfin
        clear hfin g1 g2 g3 g4 g5 hr' hc' hg' h1 h2 h3 h4 h5 h6 h7
        gi_wp2
        exact ⟨_, HF.out.2, HF.out.1⟩
  case done =>
    rintro D O1 W hD hnD ⟨v, h1, h2, h3, h4, h5, h6, h7⟩ hv hK
    have hcl : W.cell? ⟨w.heap.size + 1, 0, none⟩ = some v := h1.cell 0
    obtain ⟨a, cap, hva, hcap, ha, hvw, _⟩ := h2.form
    generalize (ints (xs.take xs.length)).length = z at hva
    rw [hva] at hcl
    have HV := Lib.hid hva
    clear h1 h5 hvw hcap ha hva
    go_wp2
    refine marks_one (fun w' => results_tmp rfl _ _ w') rfl hK ?_
    simp only [World.size_alloc] at hD
    refine ⟨v, by rw [HV.out]; rfl, ?_, h6.trans' (Chg.putObj (S := fun k => k = D) W rfl _) (fun j hj h => by omega), fun g hg => by have := h4 g hg; omega⟩
    have e : xs.take most.toNat = xs.take xs.length := by rw [List.take_of_length_le h7, List.take_length]
    rw [e]
    exact h2.keep (Chg.putObj (S := fun k => k = D) W rfl _) (fun g hg e => hnD ((h3 _).2 (.inr (e ▸ hg))))
  case stop =>
    rintro D c i O1 W hD hnD hle ⟨rfl, v, h1, h2, h3, h4, h6⟩ hv hK
    have hcl : W.cell? ⟨w.heap.size + 1, 0, none⟩ = some v := h1.cell 0
    obtain ⟨a, cap, hva, hcap, ha, hvw, _⟩ := h2.form
    generalize (ints (xs.take most.toNat)).length = z at hva
    rw [hva] at hcl
    have HV := Lib.hid hva
    clear h1 hvw hcap ha hva
    refine wpIn_wide.2 ?_
    go_wp2
    refine marks_one (fun w' => results_tmp rfl _ _ w') rfl hK ?_
    simp only [World.size_alloc] at hD
    refine ⟨v, by rw [HV.out]; rfl, ?_, h6.trans' (Chg.putObj (S := fun k => k = D) W rfl _) (fun j hj h => by omega), fun g hg => by have := h4 g hg; omega⟩
    exact h2.keep (Chg.putObj (S := fun k => k = D) W rfl _) (fun g hg e => hnD ((h3 _).2 (.inr (e ▸ hg))))

end Go.Proofs.YtbebjpdbnpdpfaaDoor
