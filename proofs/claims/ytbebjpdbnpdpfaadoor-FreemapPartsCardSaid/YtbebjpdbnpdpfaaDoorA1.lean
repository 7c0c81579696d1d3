/- Laws of this seat that name no program: slices at the head of a row of their own, slices that are read, append to them, a region whose last operations write. -/
import Derived.Test.YtbebjpdbnpdpfaaDoorA0
import Derived.Outline
import Derived.Deep.QuietTactic
import Derived.BigQuiet
import Derived.StillTailTactics
import Derived.Lib.Hide
import Derived.Maps.AppendAt
namespace Go.Proofs.YtbebjpdbnpdpfaaDoor
open Go.RowKit

theorem ret_int {k : IntKind} {a b : Int} (h : a = b) : Ending.returned (.int k a) = .returned (.int k b) := by rw [h]
theorem ret_bool {a b : Bool} (h : a = b) : Ending.returned (.bool a) = .returned (.bool b) := by rw [h]

/-- A callee that leaves the world as it is, inside a region that draws its order. -/
theorem quietS {P : Program} {f : FuncId} {args : Array Value} {w : World} {n : Nat} {v : Value}
    (h : Calls P f args (w.drewN n) fun e w' => e = .returned v ∧ w.drewN n = w') : Calls P f args (w.drewN n) fun e w'' => e = .returned v ∧ ∃ m, w'' = w.drewN m :=
  h.mono fun _ _ ⟨he, hm⟩ => ⟨he, n, hm.symm⟩
/-- .. one that draws. -/
theorem quietD {P : Program} {f : FuncId} {args : Array Value} {w : World} {n : Nat} {v : Value}
    (h : Calls P f args (w.drewN n) fun e w' => e = .returned v ∧ ∃ m, w' = (w.drewN n).drewN m) : Calls P f args (w.drewN n) fun e w'' => e = .returned v ∧ ∃ m, w'' = w.drewN m :=
  h.mono fun _ _ ⟨he, m, hm⟩ => ⟨he, n + m, by rw [hm, World.drewN_drewN]⟩

/-- A region that draws its order: all but the last operations leave the world alone; these come last in every order. -/
theorem region_tail {P : Program} {id : Nat} {Q : Exit → Act → World → Prop} {a : Act} {w : World} {l : List Oper} (n : Nat) (hm : P.follows .mixedOrders = true) (hB : Region.lexTailB .any l.toArray n = true)
    (h : wpStill P l.toArray w.drew (fun a' => wpList P l.toArray Q (l.drop n) a' w.drew) (l.take n) a) : (Code.region id l.toArray true).wp P Q a w := wp_region_still_tail n hm hB h

theorem Chg.eq {S : Nat → Prop} {w w' : World} (h : w = w') : Chg S w w' := h ▸ Chg.refl _ _
theorem Chg.of_drewN {S : Nat → Prop} {w w' : World} (h : ∃ m, w' = w.drewN m) : Chg S w w' := by obtain ⟨m, rfl⟩ := h; exact Chg.drewN _ _ _

/-! ### Slices that are read -/

/-- The first cells behind the address a hold xs. -/
def View (w : World) (a : Option Addr) (xs : List Value) : Prop := ∀ i x, xs[i]? = some x → ∃ b o, a = some ⟨b, o, none⟩ ∧ w.cell? ⟨b, o + i, none⟩ = some x

theorem View.nil (w : World) (a : Option Addr) : View w a [] := fun i x h => by simp at h
theorem View.keep {S : Nat → Prop} {w w' : World} {a : Option Addr} {xs : List Value} (h : View w a xs) (hc : Chg S w w') (hb : ∀ ad, a = some ad → ¬ S ad.block) : View w' a xs := by
  intro i x hx
  obtain ⟨b, o, rfl, hcell⟩ := h i x hx
  refine ⟨b, o, rfl, ?_⟩
  have hlt : b < w.heap.size := by
    unfold World.cell? at hcell
    rcases Nat.lt_or_ge b w.heap.size with h | h
    · exact h
    · simp [Array.getElem?_eq_none h] at hcell
  exact (World.cell?_of_block (hc.keep b hlt (hb _ rfl))).trans hcell
theorem View.same {w w' : World} {a : Option Addr} {xs : List Value} (h : View w a xs) (hc : Same w w') : View w' a xs := h.keep hc (fun _ _ h => h)
theorem View.take {w : World} {a : Option Addr} {xs : List Value} (h : View w a xs) (k : Nat) : View w a (xs.take k) := by
  intro i x hx
  rw [List.getElem?_take] at hx
  split at hx
  · exact h i x hx
  · cases hx
theorem View.ex {w : World} {a : Option Addr} {xs : List Value} (h : View w a xs) (h0 : 0 < xs.length) : ∃ b o, a = some ⟨b, o, none⟩ := by
  obtain ⟨b, o, ha, _⟩ := h 0 xs[0] (by simp [h0])
  exact ⟨b, o, ha⟩
theorem View.cell {w : World} {b o : Nat} {xs : List Value} (h : View w (some ⟨b, o, none⟩) xs) {i : Nat} (hi : i < xs.length) : w.cell? ⟨b, o + i, none⟩ = some xs[i] := by
  obtain ⟨b', o', e, hc⟩ := h i xs[i] (by simp [hi])
  cases e
  exact hc

/-! ### Slices at the head of a row of their own -/

/-- v is a slice of xs, one cell each, at the head of a row of elements of type t; or nil, and xs is empty. -/
def Row (w : World) (t : TypeId) (v : Value) (xs : List Value) : Prop := w.ownsRow 0 t 1 v xs.length xs

theorem Row.nil (w : World) (t : TypeId) : Row w t (.slice none 0 0) [] := World.ownsRow_nil w 0 t 1
theorem Row.form {w : World} {t : TypeId} {v : Value} {xs : List Value} (h : Row w t v xs) :
    ∃ a cap, v = .slice a xs.length cap ∧ xs.length ≤ cap ∧ (a = none ∨ ∃ g, a = some ⟨g, 0, none⟩) ∧ View w a xs ∧ (a = none → cap = 0) := by
  rcases h.2 with ⟨rfl, h0⟩ | ⟨g, cap, cur, rfl, _, hg, hle, _, hs, ht⟩
  · obtain rfl := List.eq_nil_of_length_eq_zero h0
    exact ⟨none, 0, rfl, Nat.le_refl _, .inl rfl, View.nil _ _, fun _ => rfl⟩
  · refine ⟨_, cap, rfl, hle, .inr ⟨g, rfl⟩, ?_, fun h => by cases h⟩
    intro i x hx
    refine ⟨g, 0, rfl, ?_⟩
    rw [← ht, List.getElem?_take] at hx
    split at hx
    · simp only [World.cell?, hg]
      simpa using hx
    · cases hx
theorem Row.lt {w : World} {t : TypeId} {v : Value} {xs : List Value} (h : Row w t v xs) {g : Nat} (hg : v.ownBlock = some g) : g < w.heap.size := (World.ownsRow.lt h g hg).2
theorem Row.keep {S : Nat → Prop} {w w' : World} {t : TypeId} {v : Value} {xs : List Value} (h : Row w t v xs) (hc : Chg S w w') (hb : ∀ g, v.ownBlock = some g → ¬ S g) : Row w' t v xs := by
  refine ⟨h.1, ?_⟩
  rcases h.2 with hn | ⟨g, cap, cur, rfl, hb0, hg, rest⟩
  · exact .inl hn
  · exact .inr ⟨g, cap, cur, rfl, hb0, (hc.keep g (Array.getElem?_eq_some_iff.1 hg).1 (hb g rfl)).trans hg, rest⟩
theorem Row.same {w w' : World} {t : TypeId} {v : Value} {xs : List Value} (h : Row w t v xs) (hc : Same w w') : Row w' t v xs := h.keep hc (fun _ _ h => h)
/-- A block of another type is not the row. -/
theorem Row.ne {w : World} {t t' : TypeId} {v : Value} {xs c : List Value} {b : Nat} (h : Row w t v xs) (hb : Blk w b t' c) (ht : t' ≠ t) : v.ownBlock ≠ some b := by
  rcases h.2 with ⟨rfl, _⟩ | ⟨g, cap, cur, rfl, _, hg, _⟩
  · simp [Value.ownBlock]
  · intro e
    obtain rfl : g = b := by simpa [Value.ownBlock] using e
    have := (show w.heap[g]? = _ from hb).symm.trans hg
    simp at this
    exact ht this.2

/-- append to such a slice: in place, or in a new row. -/
theorem run_append_row {P : Program} (w : World) (t ty e : TypeId) (i : TypeInfo) (z : Value) (bytes : Nat) (ht : P.underlying t = some (.slice e)) (hi : P.info? e = some i) (hz : i.zero = some z)
    (hsize : i.size = 1) (hby : i.bytes = bytes) (hzs : z.cells.size = 1)
    (v : Value) (xs : List Value) (hown : Row w e v xs)
    (a : Addr) (m c : Nat) (news : List Value) (hl : news.length = m) (hnews : ∀ j u, news[j]? = some u → w.cell? (a.add j) = some u) (h1 : ∀ u ∈ news, u.oneCell' = true)
    (h63 : xs.length + m ≤ maxLen) (hbytes : (xs.length + m) * bytes ≤ 140737488355328) :
    ∃ v' w', (Builtin.append_ #[t, t] ty #[v, .slice (some a) m c]).run P w = .ok v' w' ∧ Row w' e v' (xs ++ news) ∧ Chg (fun k => v.ownBlock = some k) w w' ∧
      (∀ g, v'.ownBlock = some g → v.ownBlock = some g ∨ w.heap.size ≤ g) ∧ (v' = .slice none 0 0 ↔ v = .slice none 0 0 ∧ m = 0) := by
  have hx : (xs ++ news).length = xs.length + m := by simp [hl]
  rcases hown.2 with ⟨rfl, h0⟩ | ⟨g, cap, cur, rfl, _, hg, hnc, hcm, hcs, htake⟩
  · obtain ⟨v', w', hr, h2, h3, h4⟩ := run_append_own (P := P) w w.heap.size t ty e i z 1 bytes ht hi hz hsize hby hzs (by decide) (.slice none 0 0) xs.length xs ⟨by simp, .inl ⟨rfl, h0⟩⟩ a m c news (by simp [hl]) hnews h1 h63 hbytes (Nat.le_refl _)
    refine ⟨v', w', hr, ?_, Chg.grown h3 (fun k hk _ => hk), ?_, h4⟩
    · unfold Row
      rw [hx]
      refine ⟨h2.1, ?_⟩
      rcases h2.2 with h | ⟨g, cap, cur, e, hb, rest⟩
      · exact .inl h
      · exact .inr ⟨g, cap, cur, e, Nat.zero_le _, rest⟩
    · intro g hg
      exact .inr (World.ownsRow.lt h2 g hg).1
  · by_cases hroom : xs.length + m ≤ cap
    · have hfit : xs.length * i.size + news.length ≤ cur.size := by rw [hl, hcs, hsize]; omega
      have hr := run_append_room (P := P) w t ty e i ht hi g xs.length cap cur hg a m c news (by rw [hl, hsize]; omega) hnews h1 hroom hfit
      refine ⟨_, _, hr, ?_, ⟨rfl, rfl, rfl, by simp [World.setRow], fun k _ hk => setRow_other w g k _ (fun e => hk (by simp [Value.ownBlock, e]))⟩, fun g' hg' => .inl hg', by simp⟩
      unfold Row
      rw [hx]
      refine ⟨by simp [hl], .inr ⟨g, cap, _, rfl, Nat.zero_le _, setRow_heap w g cur _ e _ hg, hroom, hcm, ?_, ?_⟩⟩
      · simp only [List.size_toArray, List.length_append, List.length_take, List.length_drop, Array.length_toList, hsize]
        omega
      · rw [hsize, htake]
        have : (xs ++ news).length = (xs.length + m) * 1 := by omega
        rw [← this]
        exact List.take_left
    · have holds : ∀ j u, xs[j]? = some u → w.cell? ((⟨g, 0, none⟩ : Addr).add j) = some u := hown.cells (g := g) rfl
      have hr := run_append_grow (P := P) w t ty e i z ht hi hz ⟨g, 0, none⟩ xs.length cap xs (by rw [hsize]; omega) holds a m c news (by rw [hl, hsize]; omega) hnews (by omega) (by simp only [maxLen] at h63; omega) (growslice_fits (by omega) (by rw [hby]; exact hbytes))
      refine ⟨_, _, hr, ?_, (Chg.drew _ w).trans (Chg.alloc _ _ _), fun g' hg' => .inr ?_, by simp⟩
      · have hge := grownCap_ge w (xs.length + m) cap e
        have hcm : grownCap w (xs.length + m) cap e ≤ maxLen := grownCap_le_maxLen w (xs.length + m) cap e h63
        unfold Row
        rw [hx]
        refine ⟨by simp [hl], .inr ⟨w.heap.size, _, _, rfl, Nat.zero_le _, World.alloc_heap_new w.drew _, hge, hcm, ?_, ?_⟩⟩
        · simp only [Array.size_append, List.size_toArray, size_zeroCells, hzs, hl]
          omega
        · simp only [Array.toList_append, List.append_assoc]
          rw [← List.append_assoc]
          have : (xs ++ news).length = (xs.length + m) * 1 := by omega
          rw [← this]
          exact List.take_left
      · simp [Value.ownBlock] at hg'
        omega

theorem wpList_append_row {P : Program} (w : World) {ops : Array Oper} {rest : List Oper} {o : Oper} {a : Act} {Q : Exit → Act → World → Prop} (hgd : o.guard = none) (s x : Operand) (t : TypeId)
    (ho : o.op = .call { callee := .builtin .append, args := #[s, x], argTypes := #[t, t] })
    (e : TypeId) (i : TypeInfo) (z : Value) (bytes : Nat) (ht : P.underlying t = some (.slice e)) (hi : P.info? e = some i) (hz : i.zero = some z) (hsize : i.size = 1) (hby : i.bytes = bytes) (hzs : z.cells.size = 1)
    (v : Value) (xs : List Value) (hs : a.eval s = v) (hown : Row w e v xs)
    (ad : Addr) (m c : Nat) (news : List Value) (hx : a.eval x = .slice (some ad) m c) (hl : news.length = m) (hnews : ∀ j u, news[j]? = some u → w.cell? (ad.add j) = some u) (h1 : ∀ u ∈ news, u.oneCell' = true)
    (h63 : xs.length + m ≤ maxLen) (hbytes : (xs.length + m) * bytes ≤ 140737488355328)
    (h : ∀ v' w', Row w' e v' (xs ++ news) → Chg (fun k => v.ownBlock = some k) w w' → (∀ g, v'.ownBlock = some g → v.ownBlock = some g ∨ w.heap.size ≤ g) → (v' = .slice none 0 0 ↔ v = .slice none 0 0 ∧ m = 0) → wpList P ops Q rest (a.put o.dst v') w') : wpList P ops Q (o :: rest) a w := by
  refine wpList_plain hgd fun _ hK => ?_
  obtain ⟨v', w', hr, h2, h3, h4, h5⟩ := run_append_row (P := P) w t o.type e i z bytes ht hi hz hsize hby hzs v xs hown ad m c news hl hnews h1 h63 hbytes
  unfold Oper.wp execOp
  simp only [ho, resolve, invoke, builtin, Sem.run_bind, Sem.run_pure, Result.andThen_ok, List.map_toArray, List.map_cons, List.map_nil, hs, hx, hr]
  exact hK _ _ (h v' w' h2 h3 h4 h5)

theorem wpListIn_append_row {F : Fence} {n : Nat} {P : Program} (w : World) {ops : Array Oper} {rest : List Oper} {o : Oper} {a : Act} {Q : Exit → Act → World → Prop} (hgd : o.guard = none) (s x : Operand) (t : TypeId)
    (ho : o.op = .call { callee := .builtin .append, args := #[s, x], argTypes := #[t, t] })
    (e : TypeId) (i : TypeInfo) (z : Value) (bytes : Nat) (ht : P.underlying t = some (.slice e)) (hi : P.info? e = some i) (hz : i.zero = some z) (hsize : i.size = 1) (hby : i.bytes = bytes) (hzs : z.cells.size = 1)
    (v : Value) (xs : List Value) (hs : a.eval s = v) (hown : Row w e v xs)
    (ad : Addr) (m c : Nat) (news : List Value) (hx : a.eval x = .slice (some ad) m c) (hl : news.length = m) (hnews : ∀ j u, news[j]? = some u → w.cell? (ad.add j) = some u) (h1 : ∀ u ∈ news, u.oneCell' = true)
    (h63 : xs.length + m ≤ maxLen) (hbytes : (xs.length + m) * bytes ≤ 140737488355328)
    (h : ∀ v' w', Row w' e v' (xs ++ news) → Chg (fun k => v.ownBlock = some k) w w' → (∀ g, v'.ownBlock = some g → v.ownBlock = some g ∨ w.heap.size ≤ g) → (v' = .slice none 0 0 ↔ v = .slice none 0 0 ∧ m = 0) → wpListIn F n P ops Q rest (a.put o.dst v') w') : wpListIn F n P ops Q (o :: rest) a w := by
  refine wpListIn_plain hgd fun _ hK => ?_
  obtain ⟨v', w', hr, h2, h3, h4, h5⟩ := run_append_row (P := P) w t o.type e i z bytes ht hi hz hsize hby hzs v xs hown ad m c news hl hnews h1 h63 hbytes
  unfold Oper.wpIn
  refine ⟨?_, ?_⟩
  · simp [Oper.about, ho, resolve, Target.leads, Sem.run_pure]
  · rw [Oper.semAt_plain F _ _ (by rw [ho]; intro c hc'; cases hc')]
    simp [execOp, ho, resolve, invoke, builtin, hs, hx, hr, Result.andThen]
    exact hK _ _ (h v' w' h2 h3 h4 h5)

/-- make([]T, n): a new row of zeros. -/
theorem run_make_row {P : Program} (w : World) (t e : TypeId) (i : TypeInfo) (z : Value) (h1 : P.underlying t = some (.slice e)) (h2 : P.info? e = some i) (h3 : i.zero = some z) (h4 : i.size = 1) (hz1 : z.cells = #[z])
    (kl kc : IntKind) (L : Int) (n : Nat) (hL : L = (n : Int)) (b2 : i.bytes * n ≤ 281474976710656) (b3 : n ≤ maxLen) :
    (Instr.makeSlice t (.int kl L) (.int kc L)).run P w = .ok (.slice (some ⟨w.heap.size, 0, none⟩) n n) (w.alloc (.cells (List.replicate n z).toArray e)) := by
  unfold maxLen at b3
  have hb : ((i.bytes * n : Nat) : Int) ≤ ((281474976710656 : Nat) : Int) := Int.ofNat_le.2 b2
  rw [Int.natCast_mul] at hb
  have hr := run_make (P := P) w t e i z h1 h2 h3 kl kc n n (by omega) (Int.le_refl _) hb (by omega)
  have hm : madeCells z.cells ((n : Int).toNat * i.size) = (List.replicate n z).toArray := by
    rw [h4, hz1]
    apply Array.ext'
    simp only [madeCells, Int.toNat_natCast, Nat.mul_one]
    apply List.ext_getElem
    · simp
    · intro j h1 h2
      have : j % 1 = 0 := Nat.mod_one j
      simp [this]
  rw [hm] at hr
  simp only [Int.toNat_natCast] at hr
  subst hL
  exact hr

end Go.Proofs.YtbebjpdbnpdpfaaDoor
