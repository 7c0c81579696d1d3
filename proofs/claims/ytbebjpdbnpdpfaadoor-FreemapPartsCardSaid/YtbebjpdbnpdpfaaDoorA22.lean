/- The walks of the law of package extent: what holds in a round of its loop, and each call in it. -/
import Derived.Test.YtbebjpdbnpdpfaaDoorA19
import Derived.Deep.RegionHeld3
set_option maxRecDepth 100000
set_option linter.unusedVariables false
set_option linter.unusedSimpArgs false
namespace Go.Proofs.YtbebjpdbnpdpfaaDoor
open Go.RowKit

/-- A set, the reference's set, an act in a cell of its own: all new; nothing older has changed. -/
structure Both (w0 : World) (b bw r rw : Nat) (l l' : List Bool) (e : Nat) (p : Int) (d c : Bool) (w : World) : Prop where
  set : SetAt w b bw l
  ref : RefAt w r rw l'
  tab0 : Tab w0
  op : Blk w e 32 [.int .i64 p, .bool d, .bool c]
  same : Same w0 w
  nb : w0.heap.size ≤ b ∧ w0.heap.size ≤ bw ∧ w0.heap.size ≤ r ∧ w0.heap.size ≤ rw ∧ w0.heap.size ≤ e

theorem Blk.ne {w : World} {b b' : Nat} {t t' : TypeId} {c c' : List Value} (h : Blk w b t c) (h' : Blk w b' t' c') (ht : t ≠ t') : b ≠ b' := fun e => ht (Blk.inj (e ▸ h) h').1

theorem SetAt.blks {w : World} {b bw : Nat} {l : List Bool} (h : SetAt w b bw l) : ∃ c c', Blk w b 81 c ∧ Blk w bw 92 c' := by
  obtain ⟨_, _, _, ws, sp, cap, _, h1, h2⟩ := h
  exact ⟨_, _, h1, h2⟩
theorem RefAt.blks {w : World} {r rw : Nat} {l : List Bool} (h : RefAt w r rw l) : ∃ c c', Blk w r 84 c ∧ Blk w rw 4 c' := by
  obtain ⟨_, _, _, sp, cap, h1, h2⟩ := h
  exact ⟨_, _, h1, h2⟩

section
variable {w0 w w' : World} {b bw r rw e : Nat} {l l' : List Bool} {p : Int} {d c : Bool}
theorem Both.to (h : Both w0 b bw r rw l l' e p d c w) (hs : Same w w') : Both w0 b bw r rw l l' e p d c w' := ⟨h.set.same hs, h.ref.same hs, h.tab0, h.op.same hs, h.same.trans hs, h.nb⟩
theorem Both.cells (h : Both w0 b bw r rw l l' e p d c w) : w.cell? ⟨e, 0, none⟩ = some (.int .i64 p) ∧ w.cell? ⟨e, 1, none⟩ = some (.bool d) ∧ w.cell? ⟨e, 2, none⟩ = some (.bool c) := ⟨h.op.cell 0, h.op.cell 1, h.op.cell 2⟩

/-- The set's row has changed, and nothing else. -/
theorem Both.moved {l2 : List Bool} (h : Both w0 b bw r rw l l' e p d c w) (hS : SetAt w' b bw l2) (hc : Chg (fun k => k = bw) w w') : Both w0 b bw r rw l2 l' e p d c w' := by
  obtain ⟨_, _, s1, s2⟩ := h.set.blks
  obtain ⟨_, _, r1, r2⟩ := h.ref.blks
  exact ⟨hS, h.ref.keep hc (r1.ne s2 (by decide)) (r2.ne s2 (by decide)), h.tab0, h.op.keep hc (h.op.ne s2 (by decide)), h.same.trans' hc (fun j hj e => by have := h.nb.2.1; omega), h.nb⟩
theorem Both.movedR {l2 : List Bool} (h : Both w0 b bw r rw l l' e p d c w) (hR : RefAt w' r rw l2) (hc : Chg (fun k => k = rw) w w') : Both w0 b bw r rw l l2 e p d c w' := by
  obtain ⟨_, _, s1, s2⟩ := h.set.blks
  obtain ⟨_, _, r1, r2⟩ := h.ref.blks
  exact ⟨h.set.keep hc (s1.ne r2 (by decide)) (s2.ne r2 (by decide)), hR, h.tab0, h.op.keep hc (h.op.ne r2 (by decide)), h.same.trans' hc (fun j hj e => by have := h.nb.2.2.2.1; omega), h.nb⟩
theorem Both.tab (h : Both w0 b bw r rw l l' e p d c w) : Tab w := h.tab0.same h.same

theorem b_add (h : Both w0 b bw r rw l l' e p d c w) (q : Int) : Calls Tryd.prog 14 #[.pointer (some ⟨b, 0, none⟩), .int .i64 q] w fun x w' => x = .returned (.int .i64 (addE l q)) ∧ Both w0 b bw r rw (addL l q) l' e p d c w' ∧ Chg (fun k => k = bw) w w' :=
  (xadd h.set q).mono fun x w' ⟨h1, h2, h3⟩ => ⟨h1, h.moved h2 h3, h3⟩
theorem b_drop (h : Both w0 b bw r rw l l' e p d c w) (q : Int) : Calls Tryd.prog 15 #[.pointer (some ⟨b, 0, none⟩), .int .i64 q] w fun x w' => x = .returned (.int .i64 (dropE l q)) ∧ Both w0 b bw r rw (dropL l q) l' e p d c w' ∧ Chg (fun k => k = bw) w w' :=
  (xdrop h.set q).mono fun x w' ⟨h1, h2, h3⟩ => ⟨h1, h.moved h2 h3, h3⟩
theorem b_radd (h : Both w0 b bw r rw l l' e p d c w) (q : Int) : Calls Tryd.prog 17 #[.pointer (some ⟨r, 0, none⟩), .int .i64 q] w fun x w' => x = .returned (.int .i64 (addE l' q)) ∧ Both w0 b bw r rw l (addL l' q) e p d c w' :=
  (radd h.ref q).mono fun x w' ⟨h1, h2, h3⟩ => ⟨h1, h.movedR h2 h3⟩
theorem b_rdrop (h : Both w0 b bw r rw l l' e p d c w) (q : Int) : Calls Tryd.prog 16 #[.pointer (some ⟨r, 0, none⟩), .int .i64 q] w fun x w' => x = .returned (.int .i64 (dropE l' q)) ∧ Both w0 b bw r rw l (dropL l' q) e p d c w' :=
  (rdrop h.ref q).mono fun x w' ⟨h1, h2, h3⟩ => ⟨h1, h.movedR h2 h3⟩
/-- A clone: a set of its own. -/
theorem b_clone (h : Both w0 b bw r rw l l' e p d c w) : Calls Tryd.prog 13 #[.pointer (some ⟨b, 0, none⟩)] w fun x w' => ∃ b2 bw2, x = .returned (.pointer (some ⟨b2, 0, none⟩)) ∧ NewSet w w' b2 bw2 l ∧ Both w0 b bw r rw l l' e p d c w' :=
  (xclone h.set).mono fun x w' ⟨b2, bw2, h1, h2⟩ => ⟨b2, bw2, h1, h2, h.to h2.2.1⟩
/-- The loop goes on with the clone. -/
theorem Both.on {b2 bw2 : Nat} {l2 : List Bool} {w1 : World} (h1 : Both w0 b bw r rw l l' e p d c w1) (hN : NewSet w w1 b2 bw2 l2) (hlt : w0.heap.size ≤ w.heap.size) (hb : bw < w.heap.size)
    {l3 : List Bool} (h : Both w0 b bw r rw l3 l' e p d c w') (hc : Chg (fun k => k = bw) w1 w') : Both w0 b2 bw2 r rw l2 l' e p d c w' :=
  ⟨hN.1.keep hc (fun e => by have := hN.2.2.1; omega) (fun e => by have := hN.2.2.2; omega), h.ref, h.tab0, h.op, h.same, by have := hN.2.2; have := h.nb; omega⟩
end

/-! ### A region that draws its order, walked by hand: an operation taken first, one passed over, a call -/
section
variable {P : Program} {md : Region.Mode} {S : World → Prop} {Q : Exit → Act → World → Prop} {l rest : List Oper} {oi : Oper} {v : Value} {fuel : Nat} {listed : Array Bool} {a : Act} {w : World}
theorem opAtH {i : Nat} (hi : l.drop i = oi :: rest) : l.toArray[i]? = some oi := by
  have h := congrArg List.head? hi
  rw [List.head?_drop] at h
  simpa using h
theorem takeH (i : Nat) (hi : l.drop i = oi :: rest) (hs : Region.noSelect l.toArray = true) (hf : Region.free md l.toArray listed i = true) (hr : (Region.ready md l.toArray listed).contains i = true)
    (hQ : ∀ c a w, Q (.panic c) (a.put oi.dst v) w → Q (.panic c) a w) (hw : Region.wanted oi (yielded l.toArray a.tmps) = true) (hv : ∀ w, S w → (execOp a.eval oi).run P w = .ok (.value v) w) (hS : S w)
    (h : wpAnyH P md l.toArray Q S fuel (listed.setIfInBounds i true) (a.put oi.dst v) w) : wpAnyH P md l.toArray Q S (fuel + 1) listed a w :=
  wpAnyH_take (opAtH hi) hs hf hr hQ (Or.inl ⟨hw, hv⟩) hS h
theorem skipH (i : Nat) (hi : l.drop i = oi :: rest) (hs : Region.noSelect l.toArray = true) (hf : Region.free md l.toArray listed i = true) (hr : (Region.ready md l.toArray listed).contains i = true)
    (hQ : ∀ c a w, Q (.panic c) (a.put oi.dst undef) w → Q (.panic c) a w) (hw : Region.wanted oi (yielded l.toArray a.tmps) = false) (hS : S w)
    (h : wpAnyH P md l.toArray Q S fuel (listed.setIfInBounds i true) (a.put oi.dst undef) w) : wpAnyH P md l.toArray Q S (fuel + 1) listed a w :=
  wpAnyH_take (opAtH hi) hs hf hr hQ (Or.inr ⟨hw, rfl⟩) hS h
/-- The one operation that may come up. -/
theorem nextH (i : Nat) (hi : l.drop i = oi :: rest) (hr : Region.ready md l.toArray listed = [i]) (hw : Region.wanted oi (yielded l.toArray a.tmps) = true)
    (h : ∀ K' : Act → World → Prop, Shut (∀ a w, S w → (S w → wpAnyH P md l.toArray Q S fuel (listed.setIfInBounds i true) a w) → K' a w) → Oper.wp P oi a w K' Q) : wpAnyH P md l.toArray Q S (fuel + 1) listed a w := by
  refine wpAnyH_ready hr (by simp) (AllReadyH.cons (opAtH hi) (fun K hK => ?_) AllReadyH.nil)
  rw [if_pos hw]
  exact h K hK
end

end Go.Proofs.YtbebjpdbnpdpfaaDoor
