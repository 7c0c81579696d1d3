/- What the rows of the freemap laws give: the table, the numbers of a list, the acts of a script; arguments read as they did. -/
import Derived.Test.YtbebjpdbnpdpfaaDoorB12
import Derived.Test.YtbebjpdbnpdpfaaDoorCards
import Derived.Test.YtbebjpdbnpdpfaaDoorTie
import Derived.WalkKit
import Derived.ProofKit
import Derived.OpenShut
import Derived.ChangeSlices
import Derived.ChangeSame
import Derived.Deep.DeepHandedRow
import Derived.Deep.Slices
import Derived.Deep.Strs
import Derived.Lib.LaidTab
set_option maxRecDepth 100000
set_option linter.unusedSimpArgs false
namespace Go.Proofs.YtbebjpdbnpdpfaaDoor.fm
open Go.ChangeShapes Go.WideShapes Go.ChangeAt Go.RowKit Go.Deep

theorem own : ownKnob Tryd.prog.godebug = none := by kernel_rfl
theorem laidOut : laidOutB Tryd.prog = true := by kernel_rfl
theorem gTab : Tryd.prog.globalNamed "math/bits.deBruijn64tab" = some 0 := by kernel_rfl
theorem gTabType : (Tryd.prog.globals[0]?).map (·.type) = some 105 := by kernel_rfl
theorem cells105 : Tryd.prog.cellsOf 105 = 64 := by kernel_rfl
theorem cells5 : Tryd.prog.cellsOf 5 = 1 := by kernel_rfl
theorem cells3 : Tryd.prog.cellsOf 3 = 1 := by kernel_rfl
theorem cells44 : Tryd.prog.cellsOf 44 = 2 := by kernel_rfl

def tabInts : List Int := Low.tab.map fun (n : Nat) => (n : Int)
theorem table {W : World} (h : laidMetH Tryd.prog Rows.freemapKeepsRow.laid W) : Lib.TabIs Tryd.prog W "math/bits.deBruijn64tab" .u8 tabInts :=
  Lib.tabIs_of_head (rest := []) gTab gTabType Tryd.underlying105 Tryd.underlying5 cells5 cells105 h
theorem tab {W : World} (h : laidMetH Tryd.prog Rows.freemapKeepsRow.laid W) : Tab W := by
  intro i k hk
  have hi : i < tabInts.length := by
    have := (List.getElem?_eq_some_iff.1 hk).1
    simpa [tabInts] using this
  have hc := (table h).cell gTab i hi
  rw [hc, List.getD_eq_getElem?_getD, List.getElem?_eq_getElem hi]
  have : tabInts[i] = (k : Int) := by
    obtain ⟨h1, h2⟩ := List.getElem?_eq_some_iff.1 hk
    simp only [tabInts, List.getElem_map, h2]
  simp [this]

theorem mapM_cell {W : World} {a : Addr} {n : Nat} {cs : List Value} (h : W.cells? 0 a n = some cs) : cs.length = n ∧ ∀ i, i < n → W.cell? (a.add i) = cs[i]? := by
  unfold World.cells? at h
  rw [if_pos (Nat.zero_le _)] at h
  refine ⟨by simpa using Lib.mapM_length h, fun i hi => ?_⟩
  obtain ⟨b, hb, hf⟩ := Lib.mapM_at h i i (by simp [hi])
  rw [hb, hf]

theorem add_plain (b o n : Nat) : (⟨b, o, none⟩ : Addr).add n = ⟨b, o + n, none⟩ := by
  unfold Addr.add
  split <;> simp_all

/-- A list of numbers. -/
theorem numbers {H : Type} {enc : TypeId × Value → H} {W : World} {fuel : Nat} {v : Value} {x : DataW H × List MemPlace} (h : DataW.trod enc Tryd.prog W 0 (fun _ => true) true fuel 37 v.cells.toList = some x) :
    ∃ a xs cap, v.cells.toList = [.slice a xs.length cap] ∧ View W a (zints xs) ∧ (a = none → cap = 0) := by
  rcases open_ints Tryd.underlying37 Tryd.underlying3 cells3 h with ⟨hcs, -⟩ | ⟨a, len, cap, zs, hcs, -, hl, hm, hzl, -, hcell, -⟩
  · exact ⟨none, [], 0, hcs, View.nil _ _, fun _ => rfl⟩
  · rw [if_pos rfl] at hzl
    have hlen : (zs.take len).length = len := by rw [List.length_take]; omega
    refine ⟨some a, zs.take len, cap, by rw [hlen]; exact hcs, fun i u hu => ?_, fun e => by cases e⟩
    have hi : i < len := by
      have := (List.getElem?_eq_some_iff.1 hu).1
      rw [zints_len, hlen] at this
      exact this
    have hu' : u = .int .i64 (zs.getD i 0) := by
      rw [zints_get (by rw [hlen]; exact hi)] at hu
      have := Option.some.inj hu
      rw [← this, List.getElem_take, List.getD_eq_getElem?_getD, List.getElem?_eq_getElem (by omega)]
      rfl
    have hc := hcell i (by omega)
    obtain ⟨b, o, spot⟩ := a
    have hspot : spot = none := by
      have := hcell 0 (by omega)
      simpa [Addr.add] using World.cell?_spot this
    subst hspot
    rw [add_plain] at hc
    exact ⟨b, o, rfl, by rw [hc, hu']⟩

/-- A script: its acts lie where its slice says. -/
theorem script {H : Type} {enc : TypeId × Value → H} {W : World} {fuel : Nat} {v : Value} {x : DataW H × List MemPlace} (h : DataW.trod enc Tryd.prog W 0 (fun _ => true) true fuel 38 v.cells.toList = some x) :
    ∃ a n cap, v.cells.toList = [.slice a n cap] ∧ Acts W a n ∧ n ≤ cap ∧ cap ≤ maxLen := by
  rcases open_slice Tryd.underlying38 h with ⟨hcs, -⟩ | ⟨a, len, cap, m, n', D, Pl, hcs, -, hl, hm, hmm, -, hel⟩
  · exact ⟨none, 0, 0, hcs, fun i hi => by omega, Nat.le_refl _, Nat.zero_le _⟩
  · refine ⟨some a, len, cap, hcs, fun i hi => ?_, hl, hm⟩
    obtain ⟨cs', h1, h2⟩ := hel i (by rw [hmm]; split <;> omega)
    rw [cells44] at h1
    obtain ⟨hlen, hcell⟩ := mapM_cell h1
    obtain ⟨y0, y1, n2, -, -, g0, g1⟩ := trod_struct2 Tryd.underlying44 h2
    obtain ⟨p, e0, -, -⟩ := DataW.trod_int Tryd.underlying3 g0
    obtain ⟨d, e1, -, -⟩ := DataW.trod_int Tryd.underlying3 g1
    rw [cells3] at e0 e1
    have q0 : cs'[0]? = some (.int .i64 p) := by
      have := congrArg List.head? e0
      rw [← List.head?_eq_getElem?]
      simpa [List.head?_take] using this
    have q1 : cs'[1]? = some (.int .i64 d) := by
      have := congrArg List.head? e1
      simpa [List.head?_take] using this
    have k0 := (hcell 0 (by omega)).trans q0
    have k1 := (hcell 1 (by omega)).trans q1
    obtain ⟨b, o, spot⟩ := a
    have hspot : spot = none := by
      obtain ⟨cs0, m1, m2⟩ := hel 0 (by rw [hmm]; split <;> omega)
      rw [cells44] at m1
      obtain ⟨hl0, hc0⟩ := mapM_cell m1
      have := hc0 0 (by omega)
      rw [List.getElem?_eq_getElem (by omega)] at this
      simpa [Addr.add] using World.cell?_spot this
    subst hspot
    rw [add_plain, add_plain] at k0 k1
    exact ⟨b, o, p, d, rfl, k0, k1⟩

/-- Arguments read as they did, in every world that has left all that was there. -/
theorem reads_on {H : Type} {enc : TypeId × Value → H} {W W' : World} (hb : Below W.heap.size W W') : ∀ (ts : List TypeId) (vs : List Value) (ds : List (DataW H)) (p : List MemPlace),
    (∀ t ∈ ts, Tryd.prog.readableRec t = true ∧ t < Tryd.prog.types.size) → DataW.TrodAll enc Tryd.prog W 0 (fun _ => true) true ts vs ds p → (∀ x ∈ p, x.block < W.heap.size) →
    DataW.TrodAll enc Tryd.prog W' 0 (fun b => decide (b < W.heap.size)) true ts vs ds p
  | [], vs, ds, p, _, h, _ => by
    obtain ⟨rfl, rfl, rfl⟩ := trodAll_nil h
    exact trodAll_mk0
  | t :: ts, vs, ds, p, ht, h, hlt => by
    obtain ⟨v, vs', d, ds', p0, q0, rfl, rfl, rfl, h0, r0⟩ := trodAll_cons h
    exact trodAll_cons_mk (Below.trod laidOut (ht t (List.mem_cons_self ..)).1 (ht t (List.mem_cons_self ..)).2 h0 hb (fun x hx => hlt x (List.mem_append_left _ hx)))
      (reads_on hb ts vs' ds' q0 (fun t' h' => ht t' (List.mem_cons_of_mem _ h')) r0 (fun x hx => hlt x (List.mem_append_right _ hx)))

/-- A WORLD FOR THE WITNESS: the settled one, the table (block 0) holding what its initialiser lays. -/
noncomputable def laidWorld (os : Os) : World :=
  { World.holding Tryd.prog os ⟨#[], #[], []⟩ with heap := (World.holding Tryd.prog os ⟨#[], #[], []⟩).heap.modify 0 fun
      | .cells _ t frozen => .cells (Low.tab.map fun (n : Nat) => Value.int .u8 (n : Int)).toArray t frozen
      | o => o }

end Go.Proofs.YtbebjpdbnpdpfaaDoor.fm
