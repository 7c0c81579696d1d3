/- The walks of the library's slices, at rows of numbers: are two the same, is a number in one, a copy. -/
import Derived.Test.YtbebjpdbnpdpfaaDoorB6
import Derived.Lib.SliceRun
set_option maxRecDepth 100000
set_option linter.unusedVariables false
set_option linter.unusedSimpArgs false
namespace Go.Proofs.YtbebjpdbnpdpfaaDoor
open Go.RowKit

def zints (zs : List Int) : List Value := zs.map fun z => .int .i64 z
def natsZ (xs : List Nat) : List Int := xs.map fun (x : Nat) => (x : Int)
theorem zints_len (zs : List Int) : (zints zs).length = zs.length := by simp [zints]
theorem zints_get {zs : List Int} {i : Nat} (h : i < zs.length) : (zints zs)[i]? = some (.int .i64 zs[i]) := by simp [zints, h]
theorem ints_z (xs : List Nat) : ints xs = zints (natsZ xs) := by simp [ints, zints, natsZ]
theorem natsZ_len (xs : List Nat) : (natsZ xs).length = xs.length := by simp [natsZ]
theorem zeq_of_prefix {xs ys : List Int} {k : Nat} (hl : xs.length = ys.length) (h : xs.take k = ys.take k) (hk : xs.length ≤ k) : xs = ys := by
  rw [List.take_of_length_le hk, List.take_of_length_le (by omega)] at h; exact h

theorem lequal {w : World} {a1 a2 : Option Addr} {xs ys : List Int} {c1 c2 : Nat} (h1 : View w a1 (zints xs)) (h2 : View w a2 (zints ys)) (hx : xs.length ≤ 100000) (hy : ys.length ≤ 100000) :
    Calls Tryd.prog 29 #[.slice a1 xs.length c1, .slice a2 ys.length c2] w fun e w' => e = .returned (.bool (decide (xs = ys))) ∧ ∃ m, w' = w.drewN m := by
  have H1 := Lib.hid h1
  have H2 := Lib.hid h2
  clear h1 h2
  by_cases hl : xs.length = ys.length
  · have hl' : ((xs.length : Int) != (ys.length : Int)) = false := by simp; omega
    have HL := Lib.hid hl
    clear hl
    go_enter Tryd.func29, Tryd.ntmps29
    go_wp2
    go_loopw [13] (fun i wr => ∃ k m : Nat, k ≤ xs.length ∧ i = .int .i64 k ∧ wr = w.drewN m ∧ Hid (xs.take k = ys.take k)) (fun i _ => xs.length - (intOf i).toNat)
    case atStart => exact ⟨0, 0, Nat.zero_le _, rfl, rfl, rfl⟩
    case round =>
      obtain ⟨k, m, hk, rfl, rfl, HR⟩ := hrel
      by_cases hlt : k < xs.length
      · have hlt2 : k < ys.length := by rw [← HL.out]; exact hlt
        have hv1 := H1.out k _ (zints_get hlt)
        have hv2 := H2.out k _ (zints_get hlt2)
        obtain ⟨b1, o1, rfl, hc1⟩ := hv1
        obtain ⟨b2, o2, rfl, hc2⟩ := hv2
        have hi : (k : Int) < xs.length := by omega
        have hi2 : (k : Int) < ys.length := by omega
        have hcut : xs.take (k + 1) = ys.take (k + 1) ↔ xs[k] = ys[k] := by
          rw [List.take_succ_eq_append_getElem hlt, List.take_succ_eq_append_getElem hlt2, HR.out]
          exact ⟨fun h => by simpa using List.append_cancel_left h, fun h => by rw [h]⟩
        obtain ⟨x, hx1⟩ : ∃ x, x = xs[k] := ⟨_, rfl⟩
        obtain ⟨y, hy1⟩ : ∃ y, y = ys[k] := ⟨_, rfl⟩
        rw [← hx1] at hc1 hcut
        rw [← hy1] at hc2 hcut
        have HC := Lib.hid hcut
        clear hcut hx1 hy1
        by_cases he : x = y
        · have he' : (x != y) = false := by simp; omega
          have HE := Lib.hid he
          clear he
          go_wp2
          go_quiet (fail)
          go_wp2
          go_roundw
          case rel => exact ⟨k + 1, m + nq, by omega, by go_num, by first | exact World.drewN_drewN .. | rfl, HC.out.2 HE.out⟩
          case measure => simp [intOf]; omega
        · have he' : (x != y) = true := by simp; omega
          have hne : xs ≠ ys := fun e => he (HC.out.1 (by rw [e]))
          have HN := Lib.hid hne
          clear he hne
          go_wp2
          go_quiet (fail)
          go_wp2
          go_ret
          exact ⟨ret_bool (by simp [HN.out]), m + nq, by first | exact World.drewN_drewN .. | rfl⟩
      · go_wp2
        go_ret
        exact ⟨ret_bool (by simp [zeq_of_prefix HL.out HR.out (by omega)]), m, rfl⟩
  · have hl' : ((xs.length : Int) != (ys.length : Int)) = true := by simp; omega
    have hne : xs ≠ ys := fun e => hl (by rw [e])
    have HN := Lib.hid hne
    clear hl hne
    go_enter Tryd.func29, Tryd.ntmps29
    go_wp2
    go_ret
    exact ⟨ret_bool (by simp [HN.out]), 0, rfl⟩

/-- The index at which a number stands; -1: it stands nowhere. -/
theorem lindex {w : World} {a : Option Addr} {xs : List Int} {c : Nat} (h : View w a (zints xs)) (hx : xs.length ≤ 100000) (z : Int) :
    Calls Tryd.prog 73 #[.slice a xs.length c, .int .i64 z] w fun e w' => (∃ i : Int, e = .returned (.int .i64 i) ∧ (0 ≤ i ↔ z ∈ xs)) ∧ w = w' := by
  have H := Lib.hid h
  clear h
  go_enter Tryd.func73, Tryd.ntmps73
  go_wp2_with fail
  go_loop [8] (fun i => ∃ k : Nat, k ≤ xs.length ∧ i = .int .i64 k ∧ Hid (z ∉ xs.take k)) (fun i => xs.length - (intOf i).toNat)
  case atStart => exact ⟨0, Nat.zero_le _, rfl, by simp [Hid]⟩
  case round =>
    obtain ⟨k, hk, rfl, HR⟩ := hrel
    by_cases hlt : k < xs.length
    · obtain ⟨b1, o1, rfl, hc1⟩ := H.out k _ (zints_get hlt)
      have hi : (k : Int) < xs.length := by omega
      obtain ⟨x, hx1⟩ : ∃ x, x = xs[k] := ⟨_, rfl⟩
      rw [← hx1] at hc1
      by_cases he : z = x
      · have he' : (z == x) = true := by simp; exact he
        have hm : z ∈ xs := by rw [he, hx1]; exact List.getElem_mem _
        have HX := Lib.hid hm
        clear he hx1 hm
        go_wp2_with fail
        go_ret
        exact ⟨⟨k, rfl, fun _ => HX.out, fun _ => by omega⟩, rfl⟩
      · have he' : (z == x) = false := by simp; exact he
        have hn : z ∉ xs.take (k + 1) := by
          rw [List.take_succ_eq_append_getElem hlt, ← hx1]
          simp only [List.mem_append, List.mem_singleton, not_or]
          exact ⟨HR.out, he⟩
        have HX := Lib.hid hn
        clear he hx1 hn
        go_wp2_with fail
        go_round
        case rel => exact ⟨k + 1, by omega, by go_num, HX.out⟩
        case measure => simp [intOf]; omega
    · go_wp2_with fail
      go_ret
      have hn := HR.out
      rw [List.take_of_length_le (by omega)] at hn
      exact ⟨⟨-1, rfl, fun h => by omega, fun h => absurd h hn⟩, rfl⟩

theorem lcontains {w : World} {a : Option Addr} {xs : List Int} {c : Nat} (h : View w a (zints xs)) (hx : xs.length ≤ 100000) (z : Int) :
    Calls Tryd.prog 23 #[.slice a xs.length c, .int .i64 z] w fun e w' => e = .returned (.bool (decide (z ∈ xs))) ∧ w = w' := by
  have HC := Lib.hid (lindex (c := c) h hx z)
  clear h
  go_enter Tryd.func23, Tryd.ntmps23
  go_wp2_with fail
  go_at_call 73; refine HC.out.mono ?_; rintro e w1 ⟨⟨i, rfl, hiff⟩, rfl⟩
  have HI := Lib.hid hiff
  clear hiff
  go_wp2_with fail
  go_ret
  exact ⟨ret_bool (by simp [HI.out]), rfl⟩

/-- A copy: a row of its own. -/
def NewZ (w w' : World) (v : Value) (zs : List Int) : Prop := Row w' 3 v (zints zs) ∧ Same w w' ∧ ∀ g, v.ownBlock = some g → w.heap.size ≤ g
theorem NewInts.z {w w' : World} {v : Value} {xs : List Nat} (h : NewInts w w' v xs) : NewZ w w' v (natsZ xs) := ⟨by rw [← ints_z]; exact h.1, h.2⟩
theorem NewZ.form {w w' : World} {v : Value} {xs : List Int} (h : NewZ w w' v xs) : ∃ a c, v = .slice a xs.length c ∧ View w' a (zints xs) := by
  obtain ⟨a, c, e, _, _, hv, _⟩ := h.1.form
  rw [zints_len] at e
  exact ⟨a, c, e, hv⟩

theorem eql_nil37 (a : Option Addr) (n c : Nat) (w : World) : (binOp .eql 37 (.slice a n c) (.slice none 0 0)).run Tryd.prog w = .ok (.bool a.isNone) w := by
  exact Lib.run_eql_slice_nil w 37 3 a n c 0 0 Tryd.underlying37
attribute [local go_sem] eql_nil37
theorem lclone {w : World} {a : Option Addr} {xs : List Int} {c : Nat} (h : View w a (zints xs)) (hx : xs.length ≤ 100000) (hn : a = none → c = 0) :
    Calls Tryd.prog 21 #[.slice a xs.length c] w fun e w' => ∃ v, e = .returned v ∧ NewZ w w' v xs := by
  obtain ⟨i0, hinf, hz0, hz1, hz2⟩ := info_parts info3
  cases a with
  | none =>
    obtain rfl := hn rfl
    have h0 : xs = [] := by
      cases xs with
      | nil => rfl
      | cons x xs => obtain ⟨b, o, e, _⟩ := h 0 (.int .i64 x) (by simp [zints]); cases e
    subst h0
    clear h
    go_enter Tryd.func21, Tryd.ntmps21
    go_wp2_with fail
    go_ret
    exact ⟨_, rfl, Row.nil _ _, Chg.refl _ _, fun g hg => by simp [Value.ownBlock] at hg⟩
  | some ad =>
    have hnews : ∀ j u, (zints xs)[j]? = some u → (w.alloc (.cells #[] 3)).cell? (ad.add j) = some u := by
      intro j u hu
      obtain ⟨b, o, e, hc⟩ := (h.same (Chg.alloc _ w (.cells #[] 3))) j u hu
      cases e
      rw [← hc]
      congr 1
      unfold Addr.add
      split <;> simp_all
    have HN := Lib.hid hnews
    clear h hnews hn
    go_enter Tryd.func21, Tryd.ntmps21
    go_wp2_with (at_builtin; refine wpList_append_row _ rfl (.tmp 5) (.tmp 6) 37 rfl 3 i0 (.int .i64 0) 8 Tryd.underlying37 hinf hz0 hz1 hz2 rfl (.slice (some ⟨w.heap.size, 0, none⟩) 0 0) [] rfl ?h1 ad xs.length c (zints xs) rfl ?h2 ?h3 ?h4 ?h5 ?h6 ?h7)
    case h1 => exact Row.empty _ _
    case h2 => exact zints_len xs
    case h3 => exact HN.out
    case h4 => intro u hu; obtain ⟨z, _, rfl⟩ := List.mem_map.1 hu; rfl
    case h5 => unfold maxLen; simp; omega
    case h6 => simp; omega
    case h7 =>
      intro v' w1 hr' hc' hg' _
      have hn : NewZ w w1 v' xs := by
        refine ⟨by simpa using hr', (Chg.alloc (fun k => k = w.heap.size) w _).trans' hc' (fun j hj e => by simp [Value.ownBlock] at e; omega) |>.mono (fun j hj e => by omega), fun g hg => ?_⟩
        rcases hg' g hg with e | e
        · simp [Value.ownBlock] at e; omega
        · have := World.size_alloc w (.cells #[] 3); omega
      have HX := Lib.hid hn
      clear hr' hc' hg' hn
      go_wp2_with fail
      go_ret
      exact ⟨_, rfl, HX.out⟩

end Go.Proofs.YtbebjpdbnpdpfaaDoor
