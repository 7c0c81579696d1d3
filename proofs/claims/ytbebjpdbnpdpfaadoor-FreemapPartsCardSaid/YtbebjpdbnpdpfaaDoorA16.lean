/- The walks of the reference of layer 7: the runs in a set. -/
import Derived.Test.YtbebjpdbnpdpfaaDoorA15
import Derived.Test.YtbebjpdbnpdpfaaDoorM9
set_option maxRecDepth 100000
set_option linter.unusedVariables false
set_option linter.unusedSimpArgs false
namespace Go.Proofs.YtbebjpdbnpdpfaaDoor
open Go.RowKit

theorem info37 : (Tryd.prog.info? 37).map (fun i => (i.zero, i.size, i.bytes)) = some (some (.slice none 0 0), 1, 24) := by kernel_rfl
def pairAt (g : Nat) : Value := .slice (some ⟨g, 0, none⟩) 2 2
def pairs (gs : List Nat) : List Value := gs.map pairAt
theorem pairs_len (gs : List Nat) : (pairs gs).length = gs.length := by simp [pairs]

/-- A new row of runs, two cells each. -/
structure RunRow (w wr : World) (v : Value) (rs : List (Nat × Nat)) (gs : List Nat) : Prop where
  len : gs.length = rs.length
  row : Row wr 37 v (pairs gs)
  same : Same w wr
  own : ∀ g, v.ownBlock = some g → w.heap.size ≤ g
  new : ∀ g, g ∈ gs → w.heap.size ≤ g
  nodup : gs.Nodup
  at_ : ∀ (i g : Nat) (r : Nat × Nat), gs[i]? = some g → rs[i]? = some r → Blk wr g 3 [.int .i64 (r.1 : Nat), .int .i64 (r.2 : Nat)]

theorem RunRow.last {w wr : World} {v : Value} {rs : List (Nat × Nat)} {p n : Nat} {gs : List Nat} (h : RunRow w wr v (rs ++ [(p, n)]) gs) :
    ∃ g0 cap g, v = .slice (some ⟨g0, 0, none⟩) (rs.length + 1) cap ∧ wr.cell? ⟨g0, rs.length, none⟩ = some (.slice (some ⟨g, 0, none⟩) 2 2) ∧ wr.cell? ⟨g, 1, none⟩ = some (.int .i64 (n : Nat)) ∧ wr.frozen? ⟨g, 1, none⟩ = false ∧
      RunRow w (wr.setCell ⟨g, 1, none⟩ (.int .i64 ((n + 1 : Nat) : Int))) v (rs ++ [(p, n + 1)]) gs := by
  have hl : gs.length = rs.length + 1 := by have := h.len; simpa using this
  obtain ⟨g, hg⟩ : ∃ g, gs[rs.length]? = some g := ⟨gs[rs.length], by simp [hl]⟩
  have hb := h.at_ rs.length g (p, n) hg (by simp)
  obtain ⟨a, cap, hv, hcap, ha, hvw, hn⟩ := h.row.form
  have hp : (pairs gs)[rs.length]? = some (pairAt g) := by simp [pairs, hg]
  obtain ⟨g0, o, rfl, hc⟩ := hvw _ _ hp
  obtain rfl : o = 0 := by rcases ha with h | ⟨g', h⟩ <;> cases h; rfl
  rw [pairs_len, hl] at hv
  rw [Nat.zero_add] at hc
  have hgm : g ∈ gs := List.mem_of_getElem? hg
  have hne : v.ownBlock ≠ some g := h.row.ne hb (by decide)
  refine ⟨g0, cap, g, hv, hc, hb.cell 1, hb.frozen 1, by simp [h.len], h.row.keep (Chg.setCell (S := fun k => k = g) wr rfl _) (fun k hk e => hne (e ▸ hk)), h.same.trans' (Chg.setCell (S := fun k => k = g) wr rfl _) (fun j hj e => ?_), h.own, h.new, h.nodup, ?_⟩
  · have := h.new g hgm; omega
  · intro i g' r hi hr
    by_cases e : i = rs.length
    · subst e
      obtain rfl : g = g' := by simpa [hg] using hi
      obtain rfl : (p, n + 1) = r := by simpa using hr
      have := hb.set 1 (.int .i64 ((n + 1 : Nat) : Int))
      simpa using this
    · have hi' : i < gs.length := (List.getElem?_eq_some_iff.1 hi).1
      have hr' : (rs ++ [(p, n)])[i]? = some r := by
        rw [List.getElem?_append_left (by omega)] at hr ⊢; exact hr
      have hgg : g ≠ g' := by
        intro e'
        subst e'
        have := (List.getElem?_inj hi' h.nodup).1 (hi.trans hg.symm)
        exact e this
      exact (h.at_ i g' r hi hr').set_ne (fun e' => hgg (by simpa using e')) _

theorem RunRow.more {w wr w1 : World} {v v' : Value} {rs : List (Nat × Nat)} {gs : List Nat} {k : Nat} {o : Obj} (h : RunRow w wr v rs gs)
    (hr : Row w1 37 v' (pairs gs ++ [pairAt wr.heap.size])) (hc : Chg (fun j => v.ownBlock = some j) ((wr.alloc (.cells #[.int .i64 (k : Nat), .int .i64 0] 3)).alloc o) w1)
    (hg : ∀ g, v'.ownBlock = some g → v.ownBlock = some g ∨ wr.heap.size ≤ g) : RunRow w w1 v' (rs ++ [(k, 0)]) (gs ++ [wr.heap.size]) := by
  have hb := (Blk.newA wr 3 #[.int .i64 (k : Nat), .int .i64 0]).alloc o
  have hc2 : Chg (fun j => v.ownBlock = some j) wr w1 := ((Chg.alloc _ _ _).trans (Chg.alloc _ _ _)).trans hc
  have hlt : ∀ g, g ∈ gs → g < wr.heap.size := by
    intro g hg'
    obtain ⟨i, hi, e⟩ := List.getElem_of_mem hg'
    exact (h.at_ i g _ (by simp [hi, e]) (List.getElem?_eq_getElem (by rw [← h.len]; exact hi))).lt
  refine ⟨by simp [h.len], by simpa [pairs] using hr, h.same.trans' hc2 (fun j hj e => by have := h.own j e; omega), ?_, ?_, ?_, ?_⟩
  · intro g e
    rcases hg g e with e | e
    · exact h.own g e
    · have := h.same.size; omega
  · intro g e
    rcases List.mem_append.1 e with e | e
    · exact h.new g e
    · obtain rfl : g = wr.heap.size := by simpa using e
      exact h.same.size
  · rw [List.nodup_append]
    refine ⟨h.nodup, by simp, ?_⟩
    intro a ha b hb e
    have := hlt a ha
    simp at hb
    omega
  · intro i g r hi hr'
    rcases Nat.lt_trichotomy i gs.length with e | e | e
    · rw [List.getElem?_append_left e] at hi
      rw [List.getElem?_append_left (by rw [← h.len]; exact e)] at hr'
      have h1 := h.at_ i g r hi hr'
      exact h1.keep hc2 (fun e => h.row.ne h1 (by decide) e)
    · subst e
      obtain rfl : wr.heap.size = g := by simpa using hi
      obtain rfl : (k, 0) = r := by simpa [h.len] using hr'
      exact hb.keep hc (fun e => by have := h.row.lt e; omega)
    · have := (List.getElem?_eq_some_iff.1 hi).1
      simp at this
      omega

end Go.Proofs.YtbebjpdbnpdpfaaDoor
