/- The walks of package extent: a set made, cloned, turned round. -/
import Derived.Test.YtbebjpdbnpdpfaaDoorA4
import Derived.Deep.RegionWith
import Derived.Deep.RegionHeld3
import Derived.Deep.RegionLaw
import Derived.BigRegion
set_option maxRecDepth 100000
set_option linter.unusedVariables false
namespace Go.Proofs.YtbebjpdbnpdpfaaDoor
open Go.RowKit

theorem Blk.newA (w : World) (t : TypeId) (c : Array Value) : Blk (w.alloc (.cells c t)) w.heap.size t c.toList := by
  have := World.alloc_heap_new w (.cells c t)
  exact this

theorem View.add {w : World} {b o : Nat} {xs : List Value} (h : View w (some ⟨b, o, none⟩) xs) : ∀ j u, xs[j]? = some u → w.cell? ((⟨b, o, none⟩ : Addr).add j) = some u := by
  intro j u hu
  obtain ⟨b', o', e, hc⟩ := h j u hu
  cases e
  have : (⟨b, o, none⟩ : Addr).add j = ⟨b, o + j, none⟩ := by unfold Addr.add; split <;> simp_all
  rw [this]
  exact hc

theorem Row.empty (w : World) (t : TypeId) : Row (w.alloc (.cells #[] t)) t (.slice (some ⟨w.heap.size, 0, none⟩) 0 0) [] := by
  have := World.ownsRow_made (base := 0) (e := t) (size := 1) w #[] 0 (Nat.zero_le _) (by unfold maxLen; omega) rfl
  exact this

theorem Row.blk {w : World} {t : TypeId} {v : Value} {xs : List Value} (h : Row w t v xs) (h0 : xs ≠ []) : ∃ g cap sp, v = .slice (some ⟨g, 0, none⟩) xs.length cap ∧ Blk w g t (xs ++ sp) ∧ v.ownBlock = some g := by
  rcases h.2 with ⟨rfl, hz⟩ | ⟨g, cap, cur, rfl, _, hg, hle, _, hs, ht⟩
  · exact absurd (List.eq_nil_of_length_eq_zero hz) h0
  · refine ⟨g, cap, cur.toList.drop xs.length, rfl, ?_, rfl⟩
    unfold Blk
    rw [hg]
    rw [Nat.mul_one] at ht
    have : xs ++ cur.toList.drop xs.length = cur.toList := by
      have := List.take_append_drop xs.length cur.toList
      rw [ht] at this
      exact this
    rw [this]

/-- A set of the pages l, in new blocks. -/
def NewSet (w w' : World) (b bw : Nat) (l : List Bool) : Prop := SetAt w' b bw l ∧ Same w w' ∧ w.heap.size ≤ b ∧ w.heap.size ≤ bw

theorem xnew_bad (n : Int) (w : World) (h : n < 1 ∨ 2048 < n) : Calls Tryd.prog 10 #[.int .i64 n] w fun e w' => e = .returned (.tuple #[.pointer none, .int .i64 1]) ∧ w = w' := by
  by_cases h1 : n < 1
  all_goals
    go_enter Tryd.func10, Tryd.ntmps10
    go_wp2
    go_ret2
    exact ⟨rfl, rfl⟩

theorem xnew (n : Int) (w : World) (h1 : 1 ≤ n) (h2 : n ≤ 2048) : Calls Tryd.prog 10 #[.int .i64 n] w fun e w' => ∃ b bw, e = .returned (.tuple #[.pointer (some ⟨b, 0, none⟩), .int .i64 0]) ∧ NewSet w w' b bw (List.replicate n.toNat false) := by
  obtain ⟨i0, hi, hz0, hz1, hz2⟩ := info_parts info92
  obtain ⟨m, hm⟩ : ∃ m : Nat, (n + 64 - 1) / 64 = (m : Int) := ⟨((n + 64 - 1)/64).toNat, by omega⟩
  have hm2 : m ≤ 33 := by omega
  have hm1 : 1 ≤ m := by omega
  have hmk := fun wx => run_make_row (P := Tryd.prog) wx 79 92 i0 (.int .u64 0) Tryd.underlying79 hi hz0 hz1 rfl .i64 .i64 _ m hm (by rw [hz2]; omega) (by unfold maxLen; omega)
  have HM := Lib.hid hm
  clear hm
  go_enter Tryd.func10, Tryd.ntmps10
  go_wp2
  go_ret2
  refine ⟨w.heap.size + 1, w.heap.size, rfl, ⟨by omega, by simp; omega, by simp; omega, List.replicate m 0, [], m, ?_, ?_, ?_⟩, (Chg.alloc _ _ _).trans (Chg.alloc _ _ _), by omega, by omega⟩
  · have := Bits.zero n.toNat
    have e : (n.toNat + 63) / 64 = m := by have := HM.out; omega
    rwa [e] at this
  · have := Blk.newA (w.alloc (Obj.cells (Array.replicate m (Value.int IntKind.u64 0)) 92)) 81 #[Value.int IntKind.i64 n, Value.slice (some { block := w.heap.size, off := 0 }) m m]
    have e : ((n.toNat : Nat) : Int) = n := by omega
    simpa [e] using this
  · have := (Blk.newA w 92 (Array.replicate m (Value.int IntKind.u64 0))).alloc (Obj.cells #[Value.int IntKind.i64 n, Value.slice (some { block := w.heap.size, off := 0 }) m m] 81)
    simpa [u64s] using this

theorem xclone_row (cap : Nat) (bw : Nat) (w : World) (xs : List Nat) (hl : 1 ≤ xs.length) (hs : xs.length ≤ 64) (hv : View w (some ⟨bw, 0, none⟩) (u64s xs)) :
    Calls Tryd.prog 55 #[.slice (some ⟨bw, 0, none⟩) xs.length cap] w fun e w' => ∃ b cap' sp, e = .returned (.slice (some ⟨b, 0, none⟩) xs.length cap') ∧ Blk w' b 92 (u64s xs ++ sp) ∧ Same w w' ∧ w.heap.size ≤ b := by
  obtain ⟨i0, hi, hz0, hz1, hz2⟩ := info_parts info92
  have hnn := fun (wx : World) => Lib.run_eql_slice_nil (P := Tryd.prog) wx 79 92 (some ⟨bw, 0, none⟩) xs.length cap 0 0 Tryd.underlying79
  have HV := Lib.hid hv
  clear hv
  go_enter Tryd.func55, Tryd.ntmps55
  go_wp2_with (at_builtin; refine wpList_append_row _ rfl (.tmp 5) (.tmp 6) 79 rfl 92 i0 (.int .u64 0) 8 Tryd.underlying79 hi hz0 hz1 hz2 rfl (.slice (some ⟨w.heap.size, 0, none⟩) 0 0) [] rfl ?h1 ⟨bw, 0, none⟩ xs.length cap (u64s xs) rfl ?h2 ?h3 ?h4 ?h5 ?h6 ?h7)
  case h1 => exact Row.empty _ _
  case h2 => simp
  case h3 => exact (HV.out.same (Chg.alloc _ _ _)).add
  case h4 => simp [u64s, Value.oneCell']
  case h5 => simp; unfold maxLen; omega
  case h6 => simp; omega
  case h7 => 
    intro v' w' hr hc hg hn
    go_wp2
    go_ret
    obtain ⟨g, cap', sp, rfl, hb, ho⟩ := hr.blk (by simp; intro e; subst e; simp at hl)
    refine ⟨g, cap', sp, by simp, by simpa using hb, (Chg.alloc _ _ _).trans' hc (fun j hj e => by simp [Value.ownBlock] at e; omega), ?_⟩
    rcases hg g ho with e | e
    · simp [Value.ownBlock] at e; omega
    · omega

theorem xclone {w : World} {b bw : Nat} {l : List Bool} (h : SetAt w b bw l) :
    Calls Tryd.prog 13 #[.pointer (some ⟨b, 0, none⟩)] w fun e w' => ∃ b' bw', e = .returned (.pointer (some ⟨b', 0, none⟩)) ∧ NewSet w w' b' bw' l := by
  obtain ⟨hne, hpos, hsm, ws, sp, cap, hB, hst, hwd⟩ := h
  have hc : w.cell? ⟨b, 0, none⟩ = some (.int .i64 (l.length : Nat)) := hst.cell 0
  have hs : w.cell? ⟨b, 1, none⟩ = some (.slice (some ⟨bw, 0, none⟩) ws.length cap) := hst.cell 1
  have hn : (0 : Int) < (l.length : Nat) := by omega
  have hlen : ws.length ≤ 32 ∧ 1 ≤ ws.length := by rw [hB.len]; omega
  have hview : View w (some ⟨bw, 0, none⟩) (u64s ws) := fun i x hx => ⟨bw, 0, rfl, by
    rw [hwd.cell, Nat.zero_add, List.getElem?_append_left (List.getElem?_eq_some_iff.1 hx).1]
    exact hx⟩
  have HST := Lib.hid hst
  have HV := Lib.hid hview
  have HB := Lib.hid hB
  clear hst hwd hB hview
  go_enter Tryd.func13, Tryd.ntmps13
  go_wp2_with (go_at_call 54; refine (xnone_some _ _ _ hc hn).mono ?_; rintro e w' ⟨rfl, rfl⟩)
  go_region_held3 (fun wx => wx.cell? ⟨b, 0, none⟩ = some (.int .i64 (l.length : Nat)) ∧ wx.cell? ⟨b, 1, none⟩ = some (.slice (some ⟨bw, 0, none⟩) ws.length cap))
    (first | go_keep | exact ⟨‹_›, ‹_›⟩)
    (first | (go_at_call 55; refine (xclone_row cap bw _ ws hlen.2 (by omega) (HV.out.same (Chg.drew _ w))).mono ?_; rintro e w' ⟨b', cap', sp', rfl, hb', hc', hl'⟩; have hcc : w'.cell? ⟨b, 0, none⟩ = some (.int .i64 (l.length : Nat)) := (HST.out.same ((Chg.drew _ w).trans hc')).cell 0; have hcs : w'.cell? ⟨b, 1, none⟩ = some (.slice (some ⟨bw, 0, none⟩) ws.length cap) := (HST.out.same ((Chg.drew _ w).trans hc')).cell 1))
  go_wp2
  go_ret
  refine ⟨w'.heap.size, b', rfl, ⟨fun e => by have := hb'.lt; omega, hpos, hsm, ws, sp', cap', HB.out, Blk.newA w' 81 _, hb'.alloc _⟩, ((Chg.drew _ w).trans hc').trans (Chg.alloc _ _ _), ?_, hl'⟩
  exact hc'.size

end Go.Proofs.YtbebjpdbnpdpfaaDoor
