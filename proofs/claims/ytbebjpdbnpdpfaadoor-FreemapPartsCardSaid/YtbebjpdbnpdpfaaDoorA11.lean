/- The walks of the law of package extent: the runs that an iterator tells, gathered. -/
import Derived.Test.YtbebjpdbnpdpfaaDoorA10
set_option maxRecDepth 100000
set_option linter.unusedVariables false
set_option linter.unusedSimpArgs false
namespace Go.Proofs.YtbebjpdbnpdpfaaDoor
open Go.RowKit Go.Shelf
attribute [local go_sem] Oper.semAt_some wide_fn wide_depth eql_func67 eql_func89

def firsts (xs : List (Nat × Nat)) : List Nat := xs.map (·.1)
def seconds (xs : List (Nat × Nat)) : List Nat := xs.map (·.2)
theorem firsts_snoc {xs : List (Nat × Nat)} {i : Nat} (h : i < xs.length) : ints ((firsts xs).take i) ++ [Value.int .i64 (xs[i].1 : Nat)] = ints ((firsts xs).take (i + 1)) := by
  have h' : i < (firsts xs).length := by simpa [firsts] using h
  rw [← ints_snoc h']; simp [firsts]
theorem seconds_snoc {xs : List (Nat × Nat)} {i : Nat} (h : i < xs.length) : ints ((seconds xs).take i) ++ [Value.int .i64 (xs[i].2 : Nat)] = ints ((seconds xs).take (i + 1)) := by
  have h' : i < (seconds xs).length := by simpa [seconds] using h
  rw [← ints_snoc h']; simp [seconds]
theorem firsts_len {xs : List (Nat × Nat)} {i : Nat} (h : i ≤ xs.length) : (ints ((firsts xs).take i)).length = i := by
  rw [ints_len, List.length_take]; simp [firsts]; omega
theorem seconds_len {xs : List (Nat × Nat)} {i : Nat} (h : i ≤ xs.length) : (ints ((seconds xs).take i)).length = i := by
  rw [ints_len, List.length_take]; simp [seconds]; omega

/-- The loop's two boxes and rows. -/
structure TwoRows (w : World) (xs : List (Nat × Nat)) (i : Nat) (v1 v2 : Value) (O : Nat → Prop) (W : World) : Prop where
  b1 : Blk W (w.heap.size + 1) 37 [v1]
  b2 : Blk W (w.heap.size + 1 + 1) 37 [v2]
  r1 : Row W 3 v1 (ints ((firsts xs).take i))
  r2 : Row W 3 v2 (ints ((seconds xs).take i))
  own : ∀ k, O k ↔ k = w.heap.size + 1 ∨ k = w.heap.size + 1 + 1 ∨ v1.ownBlock = some k ∨ v2.ownBlock = some k
  ne : ∀ g, v1.ownBlock = some g → v2.ownBlock ≠ some g
  f1 : ∀ g, v1.ownBlock = some g → w.heap.size + 1 + 1 < g
  f2 : ∀ g, v2.ownBlock = some g → w.heap.size + 1 + 1 < g
  same : Same w W

theorem TwoRows.calm {w W W' : World} {xs : List (Nat × Nat)} {i : Nat} {v1 v2 : Value} {O : Nat → Prop} (h : TwoRows w xs i v1 v2 O W) (hc : Away (w.heap.size + 3) O W W') : TwoRows w xs i v1 v2 O W' where
  b1 := h.b1.keep hc (fun hh => hh.2 ((h.own _).2 (.inl rfl)))
  b2 := h.b2.keep hc (fun hh => hh.2 ((h.own _).2 (.inr (.inl rfl))))
  r1 := h.r1.keep hc (fun g hg hh => hh.2 ((h.own _).2 (.inr (.inr (.inl hg)))))
  r2 := h.r2.keep hc (fun g hg hh => hh.2 ((h.own _).2 (.inr (.inr (.inr hg)))))
  own := h.own
  ne := h.ne
  f1 := h.f1
  f2 := h.f2
  same := h.same.trans' hc (fun j hj hh => by omega)

def RunsI (w : World) (xs : List (Nat × Nat)) (most : Int) (i : Nat) (O : Nat → Prop) (W : World) : Prop :=
  (∃ v1 v2, TwoRows w xs i v1 v2 O W) ∧ Blk W w.heap.size 3 [.int .i64 most] ∧ i ≤ most.toNat
def RunsX (w : World) (xs : List (Nat × Nat)) (most : Int) (c : Code) (i : Nat) (O : Nat → Prop) (W : World) : Prop :=
  c = .exit 0 ∧ ∃ v1 v2, TwoRows w xs most.toNat v1 v2 O W

theorem xruns_told {w : World} {gf : Nat} {lb : Array Value} {xs : List (Nat × Nat)} (eg : ∀ args w, (callFunc gf args).run Tryd.prog w = .ok (.enter gf args) w) (hx : xs.length ≤ 4096)
    (hit : ∀ O1 W1, Same w W1 → (∀ k, O1 k → w.heap.size ≤ k) → (∀ k, O1 k → k < W1.heap.size) → IterAt Tryd.prog gf lb int2 xs O1 W1) (most : Int) :
    Calls Tryd.prog 49 #[.func (.func gf) #[] lb, .int .i64 most] w fun e w' => ∃ v1 v2, e = .returned (.tuple #[v1, v2]) ∧ NewInts w w' v1 ((firsts xs).take most.toNat) ∧ NewInts w w' v2 ((seconds xs).take most.toNat) := by
  refine calls_of_wp_marks Tryd.func49 rfl ?_
  simp only [Tryd.ntmps49, List.size_toArray, List.length_cons, List.length_nil, Nat.reduceAdd, Nat.reduceSub, Array.replicate_succ, Array.replicate_zero, List.push_toArray, List.append_toArray, List.nil_append, List.cons_append]
  obtain ⟨i0, hinf, hz0, hz1, hz2⟩ := info_parts info3
  have HIT := Lib.hid hit
  have EG := Lib.hid eg
  clear hit eg
  go_wp2
  refine wpIn_wide.1 (range_law (n := 3) (gf := gf) (lb := lb) rfl EG.out (encs := int2) (xs := xs) (fun k => k = w.heap.size + 1 ∨ k = w.heap.size + 1 + 1) ?hO ?hit (fun _ => rfl)
      (RunsI w xs most) (RunsX w xs most) ?hI ?hIx ?h0 ?round ?done ?stop)
  case hO => intro k hk; simp; omega
  case hit =>
    intro O1 W1 hs hO hv
    refine HIT.out O1 W1 (Chg.trans (((Chg.alloc _ _ _).trans (Chg.alloc _ _ _)).trans (Chg.alloc _ _ _)) hs) (fun k hk => ?_) hv
    have := hO k hk
    simp at this
    omega
  case hI =>
    rintro i O W W' ⟨⟨v1, v2, h⟩, h5, h7⟩ hc
    simp only [World.size_alloc] at hc
    exact ⟨⟨v1, v2, h.calm hc⟩, h5.keep hc (fun h => by omega), h7⟩
  case hIx =>
    rintro c i O W W' ⟨h0, v1, v2, h⟩ hc
    simp only [World.size_alloc] at hc
    exact ⟨h0, v1, v2, h.calm hc⟩
  case h0 =>
    have e1 := (Blk.newA (w.alloc (.cells #[.int .i64 most] 3)) 37 #[.slice none 0 0]).alloc (.cells #[.slice none 0 0] 37)
    have e2 := ((Blk.newA w 3 #[.int .i64 most]).alloc (.cells #[.slice none 0 0] 37)).alloc (.cells #[.slice none 0 0] 37)
    have e3 := Blk.newA ((w.alloc (.cells #[.int .i64 most] 3)).alloc (.cells #[.slice none 0 0] 37)) 37 #[.slice none 0 0]
    simp only [World.size_alloc] at e1 e3
    exact ⟨⟨.slice none 0 0, .slice none 0 0, e1, e3, Row.nil _ _, Row.nil _ _, fun k => by simp [Value.ownBlock], fun g hg => by simp [Value.ownBlock] at hg, fun g hg => by simp [Value.ownBlock] at hg, fun g hg => by simp [Value.ownBlock] at hg, ((Chg.alloc _ _ _).trans (Chg.alloc _ _ _)).trans (Chg.alloc _ _ _)⟩, e2, Nat.zero_le _⟩
  case round =>
    intro n' l' i hi O1 W hI hv
    gi_wp2
    refine RoundThen.mk fun W2 ⟨⟨v1, v2, hT⟩, h5, h7⟩ hv2 => ?_
    obtain ⟨a1, c1, hva1, -, -, -, -⟩ := hT.r1.form
    obtain ⟨a2, c2, hva2, -, -, -, -⟩ := hT.r2.form
    have hl1 : (ints ((firsts xs).take i)).length = i := firsts_len (by omega)
    have hl2 : (ints ((seconds xs).take i)).length = i := seconds_len (by omega)
    rw [hl1] at hva1
    rw [hl2] at hva2
    have hc1 : W2.cell? ⟨w.heap.size + 1, 0, none⟩ = some (.slice a1 i c1) := by rw [← hva1]; exact hT.b1.cell 0
    have hcm : W2.cell? ⟨w.heap.size, 0, none⟩ = some (.int .i64 most) := h5.cell 0
    have H := Lib.hid hT
    have H5 := Lib.hid h5
    have HV1 := Lib.hid hva1
    have HV2 := Lib.hid hva2
    have HL1 := Lib.hid hl1
    have HL2 := Lib.hid hl2
    have hlt2 : w.heap.size + 1 + 1 < W2.heap.size := hT.b2.lt
    clear hT h5 hva1 hva2 hl1 hl2 hI hv
    by_cases hge : most ≤ i
    · gi_wp2
      obtain rfl : i = most.toNat := by omega
      exact ⟨O1, ⟨Chg.refl _ _, fun k hk => .inl hk, hv2⟩, rfl, v1, v2, H.out⟩
    · gi_wp2_with (gi_at_builtin; refine wpListIn_append_row _ rfl (.tmp 19) (.tmp 21) 37 rfl 3 i0 (.int .i64 0) 8 Tryd.underlying37 hinf hz0 hz1 hz2 rfl (.slice a1 i c1) (ints ((firsts xs).take i)) rfl ?h1 ⟨W2.heap.size, 0, none⟩ 1 1 [.int .i64 (xs[i].1 : Nat)] rfl rfl ?h3 ?h4 ?h5 ?h6 ?h7)
      case h1 => rw [← HV1.out]; exact H.out.r1.same (Chg.alloc _ _ _)
      case h4 => simp [Value.oneCell']
      case h5 => rw [HL1.out]; unfold maxLen; omega
      case h6 => rw [HL1.out]; omega
      case h7 =>
        intro v' w1 hr' hc' hg' _
        rw [← HV1.out] at hc' hg'
        have hT := H.out
        obtain ⟨g1, g2, g3, g4, g5⟩ := boxed_append (by decide) hT.b1 hT.r1 hr' hc' hg'
        rw [firsts_snoc hi] at g3 hr'
        have hcb := g1.cell 0
        have hfb := g1.frozen 0
        obtain ⟨a', c', hv'⟩ : ∃ a' c', v' = .slice a' (i + 1) c' := by
          obtain ⟨a', c', e, _⟩ := hr'.form
          exact ⟨a', c', by rw [e, firsts_len (by omega)]⟩
        -- the other box, the other row, lie as they lay
        have m1 : Blk w1 (w.heap.size + 1 + 1) 37 [v2] := (hT.b2.alloc _).keep hc' (fun h => by have := hT.f1 _ h; omega)
        have k2 : Blk (w1.setCell ⟨w.heap.size + 1, 0, none⟩ v') (w.heap.size + 1 + 1) 37 [v2] := m1.set_ne (fun e => by simp at e) _
        have k4 : Row (w1.setCell ⟨w.heap.size + 1, 0, none⟩ v') 3 v2 (ints ((seconds xs).take i)) := hT.r2.keep g4 (fun g hg h => by
          rcases h with h | h
          · have := hT.f2 _ hg; omega
          · exact hT.ne _ h hg)
        have k5 : Blk (w1.setCell ⟨w.heap.size + 1, 0, none⟩ v') w.heap.size 3 [.int .i64 most] := H5.out.keep g4 (fun h => by
          rcases h with h | h
          · omega
          · have := hT.f1 _ h; omega)
        have kne : ∀ g, v'.ownBlock = some g → v2.ownBlock ≠ some g := fun g hg h => by
          rcases g5 g hg with e | e
          · exact hT.ne _ e h
          · have := hT.r2.lt h; omega
        have hc2 : w1.cell? ⟨w.heap.size + 1 + 1, 0, none⟩ = some (.slice a2 i c2) := by rw [← HV2.out]; exact m1.cell 0
        have hf2 : w1.frozen? ⟨w.heap.size + 1 + 1, 0, none⟩ = false := m1.frozen 0
        subst hv'
        have K := Lib.hid (⟨g2, g3, g4, g5, k2, k4, k5, kne⟩ : _ ∧ _ ∧ _ ∧ _ ∧ _ ∧ _ ∧ _ ∧ _)
        clear g1 g2 g3 g4 g5 k2 k4 k5 kne hr' hc' hg' hT m1
        gi_wp2_with (gi_at_builtin; refine wpListIn_append_row _ rfl (.tmp 23) (.tmp 25) 37 rfl 3 i0 (.int .i64 0) 8 Tryd.underlying37 hinf hz0 hz1 hz2 rfl (.slice a2 i c2) (ints ((seconds xs).take i)) rfl ?j1 ⟨w1.heap.size, 0, none⟩ 1 1 [.int .i64 (xs[i].2 : Nat)] rfl rfl ?j3 ?j4 ?j5 ?j6 ?j7)
        case j1 => rw [← HV2.out]; exact K.out.2.2.2.2.2.1.same (Chg.alloc _ _ _)
        case j3 =>
          have hsz : (w1.setCell ⟨w.heap.size + 1, 0, none⟩ (.slice a' (i + 1) c')).heap.size = w1.heap.size := by simp [World.setCell]
          have := cell_one_new (w1.setCell ⟨w.heap.size + 1, 0, none⟩ (.slice a' (i + 1) c')) (.int .i64 (xs[i].2 : Nat)) 3
          rw [hsz] at this
          exact this
        case j4 => simp [Value.oneCell']
        case j5 => rw [HL2.out]; unfold maxLen; omega
        case j6 => rw [HL2.out]; omega
        case j7 =>
          intro v'' w3 hr'' hc'' hg'' _
          rw [← HV2.out] at hc'' hg''
          obtain ⟨g2, g3, g4, g5, k2, k4, k5, kne⟩ := K.out
          obtain ⟨p1, p2, p3, p4, p5⟩ := boxed_append (by decide) k2 k4 hr'' hc'' (by simpa using hg'')
          rw [seconds_snoc hi] at p3 hr''
          obtain ⟨a'', c'', hv''⟩ : ∃ a'' c'', v'' = .slice a'' (i + 1) c'' := by
            obtain ⟨a', c', e, _⟩ := hr''.form
            exact ⟨a', c', by rw [e, seconds_len (by omega)]⟩
          have hcb2 := p1.cell 0
          have hfb2 := p1.frozen 0
          have hT := H.out
          subst hv''
          have hown1 : ∀ g, (Value.slice a' (i + 1) c').ownBlock = some g → w.heap.size + 1 + 1 < g ∧ (v1.ownBlock = some g ∨ W2.heap.size ≤ g) := fun g hg => by
            rcases g5 g hg with e | e
            · exact ⟨hT.f1 _ e, .inl e⟩
            · exact ⟨by omega, .inr e⟩
          have hsz1 : W2.heap.size ≤ (w1.setCell ⟨w.heap.size + 1, 0, none⟩ (.slice a' (i + 1) c')).heap.size := g4.size
          have hown2 : ∀ g, (Value.slice a'' (i + 1) c'').ownBlock = some g → w.heap.size + 1 + 1 < g ∧ (v2.ownBlock = some g ∨ (w1.setCell ⟨w.heap.size + 1, 0, none⟩ (.slice a' (i + 1) c')).heap.size ≤ g) := fun g hg => by
            rcases p5 g hg with e | e
            · exact ⟨hT.f2 _ e, .inl e⟩
            · exact ⟨by omega, .inr e⟩
          have hall : Chg O1 W2 ((w3.setCell ⟨w.heap.size + 1 + 1, 0, none⟩ (.slice a'' (i + 1) c''))) := by
            refine (g4.mono (fun j _ h => ?_)).trans' p4 (fun j _ h => ?_)
            · rcases h with h | h
              · exact (hT.own _).2 (.inl h)
              · exact (hT.own _).2 (.inr (.inr (.inl h)))
            · rcases h with h | h
              · exact (hT.own _).2 (.inr (.inl h))
              · exact (hT.own _).2 (.inr (.inr (.inr h)))
          have hfin : RunsI w xs most (i + 1) (fun k => k = w.heap.size + 1 ∨ k = w.heap.size + 1 + 1 ∨ (Value.slice a' (i + 1) c').ownBlock = some k ∨ (Value.slice a'' (i + 1) c'').ownBlock = some k) (w3.setCell ⟨w.heap.size + 1 + 1, 0, none⟩ (.slice a'' (i + 1) c'')) ∧
              Owns O1 (fun k => k = w.heap.size + 1 ∨ k = w.heap.size + 1 + 1 ∨ (Value.slice a' (i + 1) c').ownBlock = some k ∨ (Value.slice a'' (i + 1) c'').ownBlock = some k) W2 (w3.setCell ⟨w.heap.size + 1 + 1, 0, none⟩ (.slice a'' (i + 1) c'')) := by
            refine ⟨⟨⟨.slice a' (i + 1) c', .slice a'' (i + 1) c'', ?_, p2, ?_, p3, fun k => Iff.rfl, ?_, fun g hg => (hown1 g hg).1, fun g hg => (hown2 g hg).1, ?_⟩, ?_, by omega⟩, hall, ?_, ?_⟩
            · refine g2.keep p4 (fun h => ?_)
              rcases h with h | h
              · omega
              · have := hT.f2 _ h; omega
            · refine g3.keep p4 (fun g hg h => ?_)
              rcases h with h | h
              · have := (hown1 g hg).1; omega
              · exact kne g hg h
            · intro g hg h
              rcases (hown2 g h).2 with e | e
              · exact kne g hg e
              · have := g3.lt hg; omega
            · refine hT.same.trans' hall (fun j hj h => ?_)
              rcases (hT.own _).1 h with e | e | e | e
              · omega
              · omega
              · have := hT.f1 _ e; omega
              · have := hT.f2 _ e; omega
            · refine k5.keep p4 (fun h => ?_)
              rcases h with h | h
              · omega
              · have := hT.f2 _ h; omega
            · rintro k (h | h | h | h)
              · exact .inl ((hT.own _).2 (.inl h))
              · exact .inl ((hT.own _).2 (.inr (.inl h)))
              · rcases (hown1 k h).2 with e | e
                · exact .inl ((hT.own _).2 (.inr (.inr (.inl e))))
                · exact .inr e
              · rcases (hown2 k h).2 with e | e
                · exact .inl ((hT.own _).2 (.inr (.inr (.inr e))))
                · exact .inr (by omega)
            · have hs4 := p4.size
              rintro k (h | h | h | h)
              · omega
              · omega
              · have := g3.lt h; omega
              · exact p3.lt h
          have HF := Lib.hid hfin
          clear hfin hall hown1 hown2 p2 p3 p4 p5 g2 g3 g4 g5 k2 k4 k5 kne hT hr'' hc'' hg''
          gi_wp2
          exact ⟨_, HF.out.2, HF.out.1⟩
  case done =>
    rintro D O1 W hD hnD ⟨⟨v1, v2, hT⟩, h5, h7⟩ hv hK
    have hc1 : W.cell? ⟨w.heap.size + 1, 0, none⟩ = some v1 := hT.b1.cell 0
    have hc2 : W.cell? ⟨w.heap.size + 1 + 1, 0, none⟩ = some v2 := hT.b2.cell 0
    obtain ⟨a1, c1, hva1, -, -, -, -⟩ := hT.r1.form
    obtain ⟨a2, c2, hva2, -, -, -, -⟩ := hT.r2.form
    generalize (ints ((firsts xs).take xs.length)).length = z1 at hva1
    generalize (ints ((seconds xs).take xs.length)).length = z2 at hva2
    rw [hva1] at hc1
    rw [hva2] at hc2
    have HV1 := Lib.hid hva1
    have HV2 := Lib.hid hva2
    have H := Lib.hid hT
    clear hT h5 hva1 hva2
    go_wp2
    go_quiet (fail)
    go_wp2
    simp only [World.size_alloc] at hD
    have hP : Chg (fun k => k = D) W ((W.drewN nq).putObj D (.deferred none)) := (Chg.drewN _ W nq).trans (Chg.putObj (S := fun k => k = D) _ rfl _)
    refine marks_one (fun w' => results_tmp2 rfl _ _ w') rfl hK ?_
    have hS := H.out.same.trans' hP (fun j hj h => by omega)
    have e1 : (firsts xs).take most.toNat = (firsts xs).take xs.length := by rw [List.take_of_length_le (by simp [firsts]; omega), List.take_of_length_le (by simp [firsts])]
    have e2 : (seconds xs).take most.toNat = (seconds xs).take xs.length := by rw [List.take_of_length_le (by simp [seconds]; omega), List.take_of_length_le (by simp [seconds])]
    refine ⟨v1, v2, by rw [HV1.out, HV2.out]; rfl, ⟨?_, hS, fun g hg => by have := H.out.f1 g hg; omega⟩, ?_, hS, fun g hg => by have := H.out.f2 g hg; omega⟩
    · rw [e1]; exact H.out.r1.keep hP (fun g hg e => hnD ((H.out.own _).2 (.inr (.inr (.inl (e ▸ hg))))))
    · rw [e2]; exact H.out.r2.keep hP (fun g hg e => hnD ((H.out.own _).2 (.inr (.inr (.inr (e ▸ hg))))))
  case stop =>
    rintro D c i O1 W hD hnD hle ⟨rfl, v1, v2, hT⟩ hv hK
    have hc1 : W.cell? ⟨w.heap.size + 1, 0, none⟩ = some v1 := hT.b1.cell 0
    have hc2 : W.cell? ⟨w.heap.size + 1 + 1, 0, none⟩ = some v2 := hT.b2.cell 0
    obtain ⟨a1, c1, hva1, -, -, -, -⟩ := hT.r1.form
    obtain ⟨a2, c2, hva2, -, -, -, -⟩ := hT.r2.form
    generalize (ints ((firsts xs).take most.toNat)).length = z1 at hva1
    generalize (ints ((seconds xs).take most.toNat)).length = z2 at hva2
    rw [hva1] at hc1
    rw [hva2] at hc2
    have HV1 := Lib.hid hva1
    have HV2 := Lib.hid hva2
    have H := Lib.hid hT
    clear hT hva1 hva2
    refine wpIn_wide.2 ?_
    go_wp2
    go_quiet (fail)
    go_wp2
    simp only [World.size_alloc] at hD
    have hP : Chg (fun k => k = D) W ((W.drewN nq).putObj D (.deferred none)) := (Chg.drewN _ W nq).trans (Chg.putObj (S := fun k => k = D) _ rfl _)
    refine marks_one (fun w' => results_tmp2 rfl _ _ w') rfl hK ?_
    have hS := H.out.same.trans' hP (fun j hj h => by omega)
    refine ⟨v1, v2, by rw [HV1.out, HV2.out]; rfl, ⟨?_, hS, fun g hg => by have := H.out.f1 g hg; omega⟩, ?_, hS, fun g hg => by have := H.out.f2 g hg; omega⟩
    · exact H.out.r1.keep hP (fun g hg e => hnD ((H.out.own _).2 (.inr (.inr (.inl (e ▸ hg))))))
    · exact H.out.r2.keep hP (fun g hg e => hnD ((H.out.own _).2 (.inr (.inr (.inr (e ▸ hg))))))

end Go.Proofs.YtbebjpdbnpdpfaaDoor
