/-
  PROVED: package extent's law ExtentDoes returns true for every input, and its arguments read afterwards as they did before; on the condition that the library's table of bit numbers starts as the program's text lays it (the tied card).
-/
import Derived.Test.YtbebjpdbnpdpfaaDoorA23
import Derived.Test.YtbebjpdbnpdpfaaDoorCards
import Derived.Test.YtbebjpdbnpdpfaaDoorTie
import Derived.WalkKit
import Derived.ProofKit
import Derived.OpenShut
import Derived.Deep.DeepHandedRow
import Derived.Deep.Slices
import Derived.Deep.Strs
import Derived.Lib.LaidTab
set_option maxRecDepth 100000
set_option linter.unusedSimpArgs false
namespace Go.Proofs.YtbebjpdbnpdpfaaDoor.extentDoes
open Go.ChangeShapes Go.WideShapes Go.ChangeAt Go.RowKit Go.Deep

theorem own : ownKnob Tryd.prog.godebug = none := by kernel_rfl
theorem laidOut : laidOutB Tryd.prog = true := by kernel_rfl
theorem gTab : Tryd.prog.globalNamed "math/bits.deBruijn64tab" = some 0 := by kernel_rfl
theorem gTabType : (Tryd.prog.globals[0]?).map (·.type) = some 105 := by kernel_rfl
theorem cells105 : Tryd.prog.cellsOf 105 = 64 := by kernel_rfl
theorem cells5 : Tryd.prog.cellsOf 5 = 1 := by kernel_rfl
theorem cells3 : Tryd.prog.cellsOf 3 = 1 := by kernel_rfl
theorem cells4 : Tryd.prog.cellsOf 4 = 1 := by kernel_rfl
theorem cells32 : Tryd.prog.cellsOf 32 = 3 := by kernel_rfl

def tabInts : List Int := Low.tab.map fun (n : Nat) => (n : Int)
/-- WHAT THE ROW's LIST GIVES: the table's cells hold its 64 numbers. -/
theorem table {W : World} (h : laidMetH Tryd.prog Rows.extentDoesRow.laid W) : Lib.TabIs Tryd.prog W "math/bits.deBruijn64tab" .u8 tabInts :=
  Lib.tabIs_of_head (rest := []) gTab gTabType Tryd.underlying105 Tryd.underlying5 cells5 cells105 h
theorem tab {W : World} (h : laidMetH Tryd.prog Rows.extentDoesRow.laid W) : Tab W := by
  intro i k hk
  have hi : i < tabInts.length := by
    have := (List.getElem?_eq_some_iff.1 hk).1
    simpa [tabInts] using this
  have hc := (table h).cell gTab i hi
  rw [hc, List.getD_eq_getElem?_getD, List.getElem?_eq_getElem hi]
  have : tabInts[i] = (k : Int) := by
    obtain ⟨h1, h2⟩ := List.getElem?_eq_some_iff.1 hk
    simp only [tabInts, List.getElem_map, h2]
  simp [this]

theorem mapM_cell {W : World} {a : Addr} {n : Nat} {cs : List Value} (h : W.cells? 0 a n = some cs) : cs.length = n ∧ ∀ i, i < n → W.cell? (a.add i) = cs[i]? := by
  unfold World.cells? at h
  rw [if_pos (Nat.zero_le _)] at h
  refine ⟨by simpa using Lib.mapM_length h, fun i hi => ?_⟩
  obtain ⟨b, hb, hf⟩ := Lib.mapM_at h i i (by simp [hi])
  rw [hb, hf]

/-- WHAT READING THE SCRIPT GIVES: its acts lie where its slice says. -/
theorem script {H : Type} {enc : TypeId × Value → H} {W : World} {fuel : Nat} {v : Value} {x : DataW H × List MemPlace} (h : DataW.trod enc Tryd.prog W 0 (fun _ => true) true fuel 22 v.cells.toList = some x) :
    ∃ a n cap, v.cells.toList = [.slice a n cap] ∧ OpsAt W a n ∧ n ≤ cap ∧ cap ≤ maxLen := by
  rcases open_slice Tryd.underlying22 h with ⟨hcs, -⟩ | ⟨a, len, cap, m, n', D, Pl, hcs, -, hl, hm, hmm, -, hel⟩
  · exact ⟨none, 0, 0, hcs, fun i hi => by omega, Nat.le_refl _, Nat.zero_le _⟩
  · refine ⟨some a, len, cap, hcs, fun i hi => ?_, hl, hm⟩
    obtain ⟨cs', h1, h2⟩ := hel i (by rw [hmm]; split <;> omega)
    rw [cells32] at h1
    obtain ⟨hlen, hcell⟩ := mapM_cell h1
    obtain ⟨y0, y1, y2, n2, -, -, g0, g1, g2⟩ := trod_struct3 Tryd.underlying32 h2
    obtain ⟨p, e0, -, -⟩ := DataW.trod_int Tryd.underlying3 g0
    obtain ⟨d, e1, -⟩ := DataW.trod_bool Tryd.underlying4 g1
    obtain ⟨c, e2, -⟩ := DataW.trod_bool Tryd.underlying4 g2
    rw [cells3] at e0
    rw [cells4] at e1 e2
    have q0 : cs'[0]? = some (.int .i64 p) := by
      have := congrArg List.head? e0
      rw [← List.head?_eq_getElem?]
      simpa [List.head?_take] using this
    have q1 : cs'[1]? = some (.bool d) := by
      have := congrArg List.head? e1
      simpa [List.head?_take] using this
    have q2 : cs'[2]? = some (.bool c) := by
      have := congrArg List.head? e2
      simpa [List.head?_take] using this
    have k0 := (hcell 0 (by omega)).trans q0
    have k1 := (hcell 1 (by omega)).trans q1
    have k2 := (hcell 2 (by omega)).trans q2
    obtain ⟨b, o, spot⟩ := a
    have hspot : spot = none := by
      obtain ⟨cs0, m1, m2⟩ := hel 0 (by rw [hmm]; split <;> omega)
      rw [cells32] at m1
      obtain ⟨hl0, hc0⟩ := mapM_cell m1
      have := hc0 0 (by omega)
      rw [List.getElem?_eq_getElem (by omega)] at this
      simpa [Addr.add] using World.cell?_spot this
    subst hspot
    have e : ∀ n, (⟨b, o, none⟩ : Addr).add n = ⟨b, o + n, none⟩ := fun n => by
      unfold Addr.add
      split <;> simp_all
    have e' : ∀ n k, (⟨b, o + n, none⟩ : Addr).add k = ⟨b, o + n + k, none⟩ := fun n k => by
      unfold Addr.add
      split <;> simp_all
    rw [e, e'] at k0 k1 k2
    exact ⟨b, o, p, d, c, rfl, k0, k1, k2⟩

/-- Arguments read as they did, in every world that has left all that was there. -/
theorem reads_on {H : Type} {enc : TypeId × Value → H} {W W' : World} (hb : Below W.heap.size W W') : ∀ (ts : List TypeId) (vs : List Value) (ds : List (DataW H)) (p : List MemPlace),
    (∀ t ∈ ts, Tryd.prog.readableRec t = true ∧ t < Tryd.prog.types.size) → DataW.TrodAll enc Tryd.prog W 0 (fun _ => true) true ts vs ds p → (∀ x ∈ p, x.block < W.heap.size) →
    DataW.TrodAll enc Tryd.prog W' 0 (fun b => decide (b < W.heap.size)) true ts vs ds p
  | [], vs, ds, p, _, h, _ => by
    obtain ⟨rfl, rfl, rfl⟩ := trodAll_nil h
    exact trodAll_mk0
  | t :: ts, vs, ds, p, ht, h, hlt => by
    obtain ⟨v, vs', d, ds', p0, q0, rfl, rfl, rfl, h0, r0⟩ := trodAll_cons h
    exact trodAll_cons_mk (Below.trod laidOut (ht t (List.mem_cons_self ..)).1 (ht t (List.mem_cons_self ..)).2 h0 hb (fun x hx => hlt x (List.mem_append_left _ hx)))
      (reads_on hb ts vs' ds' q0 (fun t' h' => ht t' (List.mem_cons_of_mem _ h')) r0 (fun x hx => hlt x (List.mem_append_right _ hx)))

/-- WHAT THE WALK GIVES, FOR EVERY ARGUMENT AND EVERY WORLD THAT HOLDS THE TABLE. -/
theorem contract (H : Type) (enc : TypeId × Value → H) (W : World) (base : Nat) (args : Array Value) (ds gs : List (DataW H)) (before : List MemPlace)
    (hval : ∀ (j : Nat) t v, Tryd.f3.params[j]? = some t → args[j]? = some v → Value.okWide Tryd.prog W .any base t v)
    (hW : DataW.Whole enc Tryd.prog Tryd.f3.params.toList Rows.extentDoesSpec.vars false W args.toList ds gs before) (hL : laidMetH Tryd.prog Rows.extentDoesRow.laid W) :
    Calls Tryd.prog 3 args W fun e W' => ∃ v, e = .returned v ∧ Rows.extentDoesSpec.post enc Tryd.prog Tryd.f3 false true false false W args v W' := by
  have hW' := hW
  have hlt := hW.lt
  obtain ⟨p, q, hA0, hV, rfl, hfz, hnd⟩ := hW
  have hA : DataW.TrodAll enc Tryd.prog W 0 (fun _ => true) true Tryd.f3.params.toList args.toList ds p := hA0
  have hAll := hA
  rw [Tryd.params3] at hA hval
  obtain ⟨v0, vs0, d0, ds0, p0, q0, hargs, rfl, rfl, h0, r0⟩ := trodAll_cons hA
  obtain ⟨v1, vs1, d1, ds1, p1, q1, rfl, rfl, rfl, h1, r1⟩ := trodAll_cons r0
  obtain ⟨v2, vs2, d2, ds2, p2, q2, rfl, rfl, rfl, h2, r2⟩ := trodAll_cons r1
  obtain ⟨rfl, rfl, rfl⟩ := trodAll_nil r2
  obtain rfl : args = #[v0, v1, v2] := by cases args; simp_all
  obtain ⟨rfl, rfl⟩ := trodVars_none hV
  obtain ⟨size, rfl, -, -, -⟩ := open_int Tryd.underlying3 (hval 0 3 v0 rfl rfl) h0
  obtain ⟨nn, rfl, -, -, -⟩ := open_int Tryd.underlying3 (hval 2 3 v2 rfl rfl) h2
  obtain ⟨a, n, cap, rfl⟩ := okWide_slice Tryd.underlying22 (hval 1 22 v1 rfl rfl)
  obtain ⟨fuel, hf⟩ := h1
  obtain ⟨a', n', cap', hcs, hO, hn, hm⟩ := script hf
  obtain ⟨rfl, rfl, rfl⟩ : a = a' ∧ n = n' ∧ cap = cap' := by
    simp [Value.cells] at hcs
    exact hcs
  refine (xdoes (tab hL) size a n cap hO hn hm nn).mono fun e W' ⟨he, hs⟩ => ?_
  subst he
  have hb := Same.below hs
  refine ⟨_, rfl, _, [], _, [], _, [], hW', trodAll_mk1 (shut_bool Tryd.underlying4 true), reads_on hb Tryd.f3.params.toList _ _ _ ?_ hAll (fun x hx => hlt x (List.mem_append_left _ hx)), rfl, hb.frame _, fun h => by cases h⟩
  rw [Tryd.params3]
  intro t ht
  simp only [List.mem_cons, List.not_mem_nil, or_false] at ht
  rcases ht with rfl | rfl | rfl
  · exact ⟨by kernel_rfl, of_decide_eq_true (by kernel_rfl)⟩
  · exact ⟨by kernel_rfl, of_decide_eq_true (by kernel_rfl)⟩
  · exact ⟨by kernel_rfl, of_decide_eq_true (by kernel_rfl)⟩

/-- A WORLD FOR THE WITNESS: the settled one, the table (block 0) holding what its initialiser lays. -/
noncomputable def laidWorld (os : Os) : World :=
  { World.holding Tryd.prog os ⟨#[], #[], []⟩ with heap := (World.holding Tryd.prog os ⟨#[], #[], []⟩).heap.modify 0 fun
      | .cells _ t frozen => .cells (Low.tab.map fun (n : Nat) => Value.int .u8 (n : Int)).toArray t frozen
      | o => o }
def witness : Array Value := #[.int .i64 0, .slice none 0 0, .int .i64 0]
theorem laid_met (os : Os) : laidMet Tryd.prog Rows.extentDoesRow.laid ((laidWorld os).forCall (fun _ _ => 0) ⟨#[], #[.int .i64 0, .slice none 0 0, .int .i64 0], []⟩).memory :=
  laidMet_of_run' 8 (by kernel_rfl) (by kernel_rfl)
theorem reads (os : Os) {H : Type} (enc : TypeId × Value → H) : ∃ ds places, DataW.whole enc Tryd.prog ((laidWorld os).forCall (fun _ _ => 0) ⟨#[], #[.int .i64 0, .slice none 0 0, .int .i64 0], []⟩).memory Tryd.f3.params.toList Rows.extentDoesSpec.vars false (#[.int .i64 0, .slice none 0 0, .int .i64 0] : Array Value).toList 8 = some (ds, [], places) :=
  ⟨[.lit (.int .i64 0), .nil, .lit (.int .i64 0)], [], by kernel_rfl⟩

theorem lifted (os : Os) (started : os.Started) (H : Type) (enc : TypeId × Value → H) (F : Stop.Interp) :
    ReturnsInHanded {} Tryd.checked os 3 .any ((OpenSpec.ofChange Rows.extentDoesSpec).preRow enc Tryd.prog Tryd.f3 Rows.extentDoesRow.domain false Rows.extentDoesRow.laid) (((OpenSpec.ofChange Rows.extentDoesSpec).at F).post enc Tryd.prog Tryd.f3 false true false false) := by
  obtain ⟨ds, places, hx⟩ := reads os enc
  refine returnsInHanded_of_row (C := Tryd.checked) (s := OpenSpec.ofChange Rows.extentDoesSpec) own started (by kernel_rfl) Tryd.func3
    (witness_row_at (enc := enc) (C := Tryd.checked) false (laidWorld os) #[.int .i64 0, .slice none 0 0, .int .i64 0] rfl (by kernel_rfl) (by kernel_rfl) (by kernel_rfl)
      (OpenSpec.preRow_of_cond 8 hx (by kernel_rfl) (fun k hk => by cases hk) (by kernel_rfl) (laid_met os))) ?_
  intro W base args ds gs before hval hW _ _ _ hL _ _
  exact contract H enc W base args ds gs before hval hW hL

theorem said : Rows.ExtentDoesSaid :=
  OpenClaim.holds_of_cond 3 Tryd.f3 rfl rfl rfl rfl rfl rfl rfl ⟨rfl, rfl, rfl, rfl, rfl⟩ rfl rfl rfl rfl rfl (by kernel_rfl) Tryd.func3 (by kernel_rfl)
    (of_decide_eq_true (by kernel_rfl)) (by unfold Func.isWrapper; first | (rw [if_pos (by decide +kernel)]; kernel_rfl) | (rw [if_neg (by decide +kernel)]; exact ⟨rfl, rfl⟩))
    (fun os started H enc _ F => by rw [OpenClaim.pre_eq_preRow]; exact lifted os started H enc F)

/-- No parameter wants a stand-in; the program's own looks are off: what the card asks. -/
theorem plain (f : FuncId) (fn : Func) (hf : Tryd.pinned.checked.prog.funcNamed "incipit/incipitlaw07.ExtentDoes" = some f) (hfn : Tryd.pinned.checked.prog.funcs[f]? = some fn) :
    false = Tryd.pinned.checked.prog.looks [] ∧ ∀ (j : Nat) t, fn.params[j]? = some t → Tryd.pinned.checked.prog.wantsStandIn t = false := by
  obtain rfl : f = 3 := Option.some.inj ((show Tryd.prog.funcNamed "incipit/incipitlaw07.ExtentDoes" = some 3 by kernel_rfl).symm.trans hf) |>.symm
  obtain rfl : fn = Tryd.f3 := (Option.some.inj (Tryd.func3.symm.trans hfn)).symm
  refine ⟨by kernel_rfl, fun j t ht => ?_⟩
  rw [Tryd.params3] at ht
  have hm : t ∈ (#[3, 22, 3] : Array TypeId) := Array.mem_of_getElem? ht
  have hm' : t = 3 ∨ t = 22 := by
    simp at hm
    rcases hm with h | h | h
    · exact .inl h
    · exact .inr h
    · exact .inl h
  rcases hm' with rfl | rfl
  · exact (show Tryd.prog.wantsStandIn 3 = false by kernel_rfl)
  · exact (show Tryd.prog.wantsStandIn 22 = false by kernel_rfl)

/-- ████ THE CARD ████ -/
theorem card : Rows.ExtentDoesCardSaid :=
  Claim7.holds_tied_plain_at .later [] _ _ _ _ said (fun _ h => by cases h) (by kernel_rfl) (fun _ h => by cases h) extentDoes_row_tie rfl ⟨rfl, rfl⟩ (by kernel_rfl) rfl plain (by kernel_rfl)

end Go.Proofs.YtbebjpdbnpdpfaaDoor.extentDoes
