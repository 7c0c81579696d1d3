/- The walk of the law FreemapKeeps. -/
import Derived.Test.YtbebjpdbnpdpfaaDoorB11
import Derived.Deep.Cut
import Derived.Deep.CutRange
set_option maxRecDepth 100000
set_option linter.unusedVariables false
set_option linter.unusedSimpArgs false
namespace Go.Proofs.YtbebjpdbnpdpfaaDoor
open Go.RowKit

/-- The acts of a script lie where its slice says. -/
def Acts (w : World) (a : Option Addr) (n : Nat) : Prop := ∀ i, i < n → ∃ (b o : Nat) (p q : Int), a = some ⟨b, o, none⟩ ∧ w.cell? ⟨b, o + i * 2, none⟩ = some (.int .i64 p) ∧ w.cell? ⟨b, o + i * 2 + 1, none⟩ = some (.int .i64 q)

theorem notB_notB (l : List Bool) : notB (notB l) = l := by
  apply List.ext_getElem
  · simp [notB]
  · intro i h1 h2
    simp [notB]
theorem nclone {w : World} {a : Option Addr} {ns : List Nat} {c : Nat} (h : View w a (ints ns)) (hx : ns.length ≤ 100000) (hn : a = none → c = 0) :
    Calls Tryd.prog 21 #[.slice a ns.length c] w fun e w' => ∃ v, e = .returned v ∧ NewInts w w' v ns := by
  have := lclone (c := c) (xs := natsZ ns) (by rw [← ints_z]; exact h) (by rw [natsZ_len]; exact hx) hn
  rw [natsZ_len] at this
  refine this.mono ?_
  rintro e w' ⟨v, rfl, h1, h2⟩
  rw [← ints_z] at h1
  exact ⟨v, rfl, h1, h2⟩
theorem nequal {w : World} {a1 a2 : Option Addr} {xs : List Nat} {c1 c2 : Nat} (h1 : View w a1 (ints xs)) (h2 : View w a2 (ints xs)) (hx : xs.length ≤ 100000) :
    Calls Tryd.prog 29 #[.slice a1 xs.length c1, .slice a2 xs.length c2] w fun e w' => e = .returned (.bool true) ∧ ∃ m, w' = w.drewN m := by
  rw [ints_z] at h1 h2
  have := lequal (c1 := c1) (c2 := c2) h1 h2 (by rw [natsZ_len]; exact hx) (by rw [natsZ_len]; exact hx)
  rw [natsZ_len] at this
  simpa using this
theorem ncontains {w : World} {a : Option Addr} {ns : List Nat} {c : Nat} (h : View w a (ints ns)) (hx : ns.length ≤ 100000) (z : Int) (hz : ∀ q ∈ ns, (q : Int) ≠ z) :
    Calls Tryd.prog 23 #[.slice a ns.length c, .int .i64 z] w fun e w' => e = .returned (.bool false) ∧ w = w' := by
  rw [ints_z] at h
  have := lcontains (c := c) h (by rw [natsZ_len]; exact hx) z
  rw [natsZ_len] at this
  have hd : decide (z ∈ natsZ ns) = false := by
    rw [decide_eq_false_iff_not]
    intro hm
    obtain ⟨q, hq, e⟩ := List.mem_map.1 hm
    exact hz q hq e
  rwa [hd] at this

theorem KeepI.with_ {w W W' : World} {n m e : Nat} {cs : List Nat} {v : Value} {ec : List Value} (K : KeepI w n m cs v e ec W) (hs : Same W W') {e' : Nat} {ec' : List Value} (hb : Blk W' e' 44 ec') : KeepI w n m cs v e' ec' W' :=
  let K' := K.to hs
  ⟨K'.map, K'.row, hb, K'.same, K'.tab0⟩

theorem KeepI.lt {w W : World} {n m e : Nat} {cs : List Nat} {v : Value} {ec : List Value} (K : KeepI w n m cs v e ec W) : ∀ q ∈ cs, q < n := by
  obtain ⟨⟨f, fw, h, hw, o, ow, s, sw, F, H, O, S, M, I, hc, hown⟩, h2, h3, h4, h5⟩ := K
  intro q hq
  rw [hc] at hq
  have := elems_lt hq
  rw [← I.lS]
  simpa [notB] using this
theorem KeepI.view {w W : World} {n m e : Nat} {cs : List Nat} {b : Option Addr} {c : Nat} {ec : List Value} (K : KeepI w n m cs (.slice b cs.length c) e ec W) : View W b (ints cs) := by
  obtain ⟨bx, cx, ex, -, -, hvw, -⟩ := K.row.form
  have : b = bx := by injection ex
  rw [this]
  exact hvw
theorem Fresh.len {w W : World} {n m : Nat} {cs : List Nat} (K : Fresh w n m cs W) : cs.length ≤ n := by
  obtain ⟨f, fw, h, hw, o, ow, s, sw, F, M, hF, hc, hown⟩ := K
  have := elems_len_le (notB F)
  rw [← hF, hc]
  simpa [notB] using this

set_option maxHeartbeats 40000000 in
theorem fkeeps {w : World} (hT : Tab w) (pages : Int) (a1 : Option Addr) (xs : List Int) (c1 : Nat) (hV : View w a1 (zints xs)) (hn1 : a1 = none → c1 = 0) (a2 : Option Addr) (n2 c2 : Nat) (hA : Acts w a2 n2) (hn2 : n2 ≤ c2) (hcap : c2 ≤ maxLen) :
    Calls Tryd.prog 4 #[.int .i64 pages, .slice a1 xs.length c1, .slice a2 n2 c2] w fun e w' => e = .returned (.bool true) ∧ Same w w' := by
  have HT := Lib.hid hT
  have HV := Lib.hid hV
  have HA := Lib.hid hA
  have HN1 := Lib.hid hn1
  clear hT hV hA hn1
  by_cases hlen : 5000 < xs.length
  · have hl' : (5000 : Int) < xs.length := by omega
    go_enter Tryd.func4, Tryd.ntmps4
    go_wp2_with fail
    go_at_call 19; refine (flive HT.out).mono ?_; rintro e w1 ⟨rfl, h1⟩
    have H1 := Lib.hid h1
    clear h1
    go_wp2_with fail
    go_at_call 19; refine (flive (HT.out.same H1.out)).mono ?_; rintro e w2 ⟨rfl, h2⟩
    go_wp2_with fail
    go_ret
    exact ⟨rfl, H1.out.trans h2⟩
  · have hl' : (xs.length : Int) ≤ 5000 := by omega
    have hl'' : ¬ (5000 : Int) < xs.length := by omega
    have hx5 : xs.length ≤ 100000 := by omega
    clear hlen
    by_cases hok : (8 ≤ pages ∧ pages ≤ 2048) ∧ okList pages (-1) xs = true
    · obtain ⟨⟨h8, h20⟩, hok⟩ := hok
      obtain ⟨ns, rfl⟩ := okList_nat (by omega) hok
      obtain ⟨n, rfl⟩ : ∃ n : Nat, pages = n := ⟨pages.toNat, by omega⟩
      rw [natsZ_len] at hl' hl'' hx5
      rw [← ints_z] at HV
      have HK := Lib.hid hok
      clear hok
      have n8 : 8 ≤ n := by omega
      have n20 : n ≤ 2048 := by omega
      simp only [natsZ_len]
      go_enter Tryd.func4, Tryd.ntmps4
      go_wp2_with fail
      go_at_call 19; refine (flive HT.out).mono ?_; rintro e w1 ⟨rfl, h1⟩
      have H1 := Lib.hid h1
      clear h1
      go_wp2_with fail
      go_at_call 20; refine (fopen (HV.out.same H1.out) hx5 n n8 n20 HK.out).mono ?_; rintro e w2 ⟨m, f, fw, h, hw, o, ow, s, sw, rfl, hM, hs, hown⟩
      have H2 := Lib.hid (⟨hM, hs, hown⟩ : _ ∧ _ ∧ _)
      clear hM hs hown
      go_wp2_with fail
      go_at_call 21; refine (nclone (HV.out.same (H1.out.trans H2.out.2.1)) hx5 HN1.out).mono ?_; rintro e w3 ⟨v, rfl, hn⟩
      obtain ⟨a9, c9, e9, -⟩ := hn.form
      have HN := Lib.hid hn
      clear hn
      subst e9
      have hcs : Hid (∃ cs : List Nat, cs = ns) := ⟨ns, rfl⟩
      have K0 : Hid (∀ W e ec, Same w3 W → Blk W e 44 ec → KeepI w n m ns (.slice a9 ns.length c9) e ec W) := fun W e ec hs hb => by
        have hlen : (notB (listB n ns)).length = n := by unfold listB notB; rw [List.length_map, addAll_len, List.length_replicate]
        have hnn : notB (notB (listB n ns)) = listB n ns := notB_notB _
        have hsz := H1.out.size
        exact ⟨⟨f, fw, h, hw, o, ow, s, sw, _, _, _, _, (H2.out.1.same HN.out.2.1).same hs, Inv.fresh hlen, by rw [hnn, elems_list HK.out], fun k hk => by have := H2.out.2.2 k hk; omega⟩, HN.out.1.same hs, hb, ((H1.out.trans H2.out.2.1).trans HN.out.2.1).trans hs, HT.out⟩
      go_upto_region 7 with fail
      go_cut [50, 51, 52] from 46 to 52 (fun s m i wx => ∃ N : Nat, N ≤ n2 ∧ N ≤ 80 ∧ s = .slice a2 N c2 ∧ m = .int .i64 N ∧ i = .int .i64 0 ∧ wx = w3)
      case first =>
        by_cases hmin : n2 ≤ 80
        · have hmin' : (n2 : Int) ≤ 80 := by omega
          have hmin'' : ¬ (80 : Int) < n2 := by omega
          go_wp2_with fail
          go_meet
          exact ⟨n2, Nat.le_refl _, hmin, rfl, rfl, rfl, rfl⟩
        · have hmin' : (80 : Int) < n2 := by omega
          go_wp2_with fail
          go_meet
          exact ⟨80, by omega, Nat.le_refl _, rfl, rfl, rfl, rfl⟩
      case rest =>
        obtain ⟨N, hNn, hN80, rfl, rfl, rfl, rfl⟩ := hcut
        go_wp2_with fail
        go_loopw [9, 52] (fun v i wr => ∃ (k : Nat) (b : Option Addr) (c : Nat) (cs : List Nat), k ≤ N ∧ cs.length ≤ 100000 ∧ i = .int .i64 k ∧ v = .slice b cs.length c ∧ Hid (Same w wr ∧ ∀ W e ec, Same wr W → Blk W e 44 ec → KeepI w n m cs v e ec W)) (fun _ i _ => N - (intOf i).toNat)
        case atStart => exact ⟨0, a9, c9, ns, Nat.zero_le _, hx5, rfl, rfl, (H1.out.trans H2.out.2.1).trans HN.out.2.1, K0.out⟩
        case round =>
          obtain ⟨k, b, c, cs, hk, hcl, rfl, rfl, HR⟩ := hrel
          by_cases hlt : k < N
          · obtain ⟨ab, ao, p, q, rfl, hq0, hq1⟩ := HA.out k (by omega)
            have hsw := HR.out.1
            have hcq : ∀ o v, w.cell? ⟨ab, o, none⟩ = some v → wr.cell? ⟨ab, o, none⟩ = some v := fun o v h => (World.cell?_of_block (hsw.keep ab (World.block_lt_of_cell? w _ h) id)).trans h
            have hq0' := hcq _ _ hq0
            have hq1' := hcq _ _ hq1
            have KK := Lib.hid (HR.out.2 _ wr.heap.size [.int .i64 p, .int .i64 q] (Chg.alloc _ wr (.cells #[.int .i64 p, .int .i64 q] 44)) (Blk.newA wr 44 #[.int .i64 p, .int .i64 q]))
            clear hq0 hq1 hsw hcq
            have hi : (k : Int) < N := by omega
            have hk0 : (0 : Int) ≤ k := by omega
            by_cases p0 : p = 0
            · have q0 : (p == 0) = true := by simp; exact p0
              clear p0
              go_wp2_with fail
              go_at_call 22; refine (k_alloc KK.out).mono ?_; rintro e w4 ⟨pp, cc, rfl, hK, hno⟩
              have K4 := Lib.hid hK
              have HNO := Lib.hid hno
              clear hK hno
              by_cases c0 : cc = 0
              · have hz := (HNO.out c0).2
                have HZ := Lib.hid (show ∀ q ∈ cs, (q : Int) ≠ pp from fun q hq e => hz q hq (by omega))
                have d0 : (cc == 0) = true := by simp; exact c0
                clear hz c0
                go_wp2_with fail
                go_at_call 23; refine (ncontains K4.out.view hcl pp HZ.out).mono ?_; rintro e w5 ⟨rfl, rfl⟩
                go_wp2_with fail
                go_roundw
                case rel => exact ⟨k + 1, b, c, cs, by omega, hcl, by go_num, rfl, K4.out.same, fun W e ec hs hb => K4.out.with_ hs hb⟩
                case measure => simp [intOf]; omega
              · have d0 : (cc == 0) = false := by simp; exact c0
                clear c0
                go_wp2_with fail
                go_roundw
                case rel => exact ⟨k + 1, b, c, cs, by omega, hcl, by go_num, rfl, K4.out.same, fun W e ec hs hb => K4.out.with_ hs hb⟩
                case measure => simp [intOf]; omega
            · have q0 : (p == 0) = false := by simp; exact p0
              by_cases p1 : p = 1
              · have q1 : (p == 1) = true := by simp; exact p1
                have g1 := KK.out.op.cell 1
                clear p0 p1
                go_wp2_with fail
                go_at_call 24; refine (k_run KK.out q).mono ?_; rintro e w4 ⟨pp, cc, rfl, hK, hno⟩
                have K4 := Lib.hid hK
                have HNO := Lib.hid hno
                clear hK hno
                by_cases c0 : cc = 0
                · have hz := HNO.out c0
                  have HZ := Lib.hid hz.2
                  have hpp := hz.1
                  have d0 : (cc == 0) = true := by simp; exact c0
                  have g4 : w4.cell? ⟨wr.heap.size, 1, none⟩ = some (.int .i64 q) := K4.out.op.cell 1
                  clear hz c0
                  go_wp2_with fail
                  go_loop [85] (fun j => ∃ t : Nat, t ≤ cs.length ∧ j = .int .i64 t) (fun j => cs.length - (intOf j).toNat)
                  case atStart => exact ⟨0, Nat.zero_le _, rfl⟩
                  case round =>
                    obtain ⟨t, ht, rfl⟩ := hrel
                    by_cases htl : t < cs.length
                    · obtain ⟨b7, o7, rfl, hc7⟩ := K4.out.view t _ (ints_get htl)
                      have hi7 : (t : Int) < cs.length := by omega
                      have hlt7 := K4.out.lt cs[t] (List.getElem_mem _)
                      have hno7 := HZ.out cs[t] (List.getElem_mem _)
                      obtain ⟨x, hx⟩ : ∃ x, x = cs[t] := ⟨_, rfl⟩
                      rw [← hx] at hc7 hlt7 hno7
                      clear hx
                      by_cases hge : pp ≤ (x : Int)
                      · have hq7 : q ≤ (x : Int) - pp := by omega
                        have hd7 : decide ((x : Int) - pp < q) = false := by simp; omega
                        have hw7 : IntKind.i64.wrap ((x : Int) - pp) = (x : Int) - pp := IntWalk.i64_in _ (by omega)
                        clear hno7
                        go_wp2_with fail
                        go_round
                        case rel => exact ⟨t + 1, by omega, by go_num⟩
                        case measure => simp [intOf]; omega
                      · have hge' : decide (pp ≤ (x : Int)) = false := by simp; omega
                        clear hno7
                        go_wp2_with fail
                        go_round
                        case rel => exact ⟨t + 1, by omega, by go_num⟩
                        case measure => simp [intOf]; omega
                    · go_wp2_with fail
                      go_roundw
                      case rel => exact ⟨k + 1, b, c, cs, by omega, hcl, by go_num, rfl, K4.out.same, fun W e ec hs hb => K4.out.with_ hs hb⟩
                      case measure => simp [intOf]; omega
                · have d0 : (cc == 0) = false := by simp; exact c0
                  clear c0
                  go_wp2_with fail
                  go_roundw
                  case rel => exact ⟨k + 1, b, c, cs, by omega, hcl, by go_num, rfl, K4.out.same, fun W e ec hs hb => K4.out.with_ hs hb⟩
                  case measure => simp [intOf]; omega
              · have q1 : (p == 1) = false := by simp; exact p1
                by_cases p2 : p = 2
                · have q2 : (p == 2) = true := by simp; exact p2
                  have e0 := KK.out.op.cell 1
                  clear p0 p1 p2
                  go_wp2_with fail
                  go_at_call 25; refine (k_free KK.out q).mono ?_; rintro e w4 ⟨⟨c4, rfl⟩, hK⟩
                  have K4 := Lib.hid hK
                  clear hK
                  go_wp2_with fail
                  go_roundw
                  case rel => exact ⟨k + 1, b, c, cs, by omega, hcl, by go_num, rfl, K4.out.same, fun W e ec hs hb => K4.out.with_ hs hb⟩
                  case measure => simp [intOf]; omega
                · have q2 : (p == 2) = false := by simp; exact p2
                  by_cases p3 : p = 3
                  · have q3 : (p == 3) = true := by simp; exact p3
                    clear p0 p1 p2 p3
                    go_wp2_with fail
                    go_at_call 26; refine (k_commit KK.out).mono ?_; rintro e w4 ⟨rfl, cs', hF, hB, hS⟩
                    have K4 := Lib.hid (⟨hF, hB, hS⟩ : _ ∧ _ ∧ _)
                    clear hF hB hS
                    go_wp2_with fail
                    go_at_call 27; refine (k_taken K4.out.1).mono ?_; rintro e w5 ⟨v', rfl, hn⟩
                    obtain ⟨b', c', e', -⟩ := hn.form
                    have HN5 := Lib.hid hn
                    clear hn
                    subst e'
                    have hcl' : cs'.length ≤ 100000 := by have := K4.out.1.len; omega
                    go_wp2_with fail
                    go_roundw
                    case rel => exact ⟨k + 1, b', c', cs', by omega, hcl', by go_num, rfl, K4.out.2.2.trans HN5.out.2.1, fun W e ec hs hb => (K4.out.1.same (HN5.out.2.1.trans hs)).keep HT.out (HN5.out.1.same hs) hb (K4.out.2.2.trans (HN5.out.2.1.trans hs))⟩
                    case measure => simp [intOf]; omega
                  · have q3 : (p == 3) = false := by simp; exact p3
                    by_cases p4 : p = 4
                    · have q4 : (p == 4) = true := by simp; exact p4
                      clear p0 p1 p2 p3 p4
                      go_wp2_with fail
                      go_at_call 28; refine (k_abort KK.out).mono ?_; rintro e w4 ⟨rfl, hF, hR, hB, hS⟩
                      have K4 := Lib.hid (⟨hF, hR, hB, hS⟩ : _ ∧ _ ∧ _ ∧ _)
                      have KA := Lib.hid (hF.keep HT.out hR hB hS)
                      clear hF hR hB hS
                      go_wp2_with fail
                      go_at_call 27; refine (k_taken K4.out.1).mono ?_; rintro e w5 ⟨v', rfl, hn⟩
                      obtain ⟨b', c', e', hv'⟩ := hn.form
                      have HN5 := Lib.hid hn
                      have HV5 := Lib.hid hv'
                      clear hn hv'
                      subst e'
                      go_wp2_with fail
                      go_at_call 29; refine (nequal HV5.out (KA.out.view.same HN5.out.2.1) hcl).mono ?_; rintro e w6 ⟨rfl, dd, rfl⟩
                      have KD := Lib.hid (KA.out.to (HN5.out.2.1.trans (Chg.drewN _ _ dd)))
                      go_wp2_with fail
                      go_roundw
                      case rel => exact ⟨k + 1, b, c, cs, by omega, hcl, by go_num, rfl, KD.out.same, fun W e ec hs hb => KD.out.with_ hs hb⟩
                      case measure => simp [intOf]; omega
                    · have q4 : (p == 4) = false := by simp; exact p4
                      clear p0 p1 p2 p3 p4
                      go_wp2_with fail
                      go_roundw
                      case rel => exact ⟨k + 1, b, c, cs, by omega, hcl, by go_num, rfl, KK.out.same, fun W e ec hs hb => KK.out.with_ hs hb⟩
                      case measure => simp [intOf]; omega
          · go_wp2_with fail
            go_ret
            exact ⟨rfl, HR.out.1⟩
    · have hb : ¬ (8 ≤ pages ∧ pages ≤ 2048) ∨ okList pages (-1) xs = false := by
        by_cases hp : 8 ≤ pages ∧ pages ≤ 2048
        · right
          cases he : okList pages (-1) xs with
          | true => exact absurd ⟨hp, he⟩ hok
          | false => rfl
        · exact .inl hp
      have HB := Lib.hid hb
      clear hok hb
      go_enter Tryd.func4, Tryd.ntmps4
      go_wp2_with fail
      go_at_call 19; refine (flive HT.out).mono ?_; rintro e w1 ⟨rfl, h1⟩
      have H1 := Lib.hid h1
      clear h1
      go_wp2_with fail
      go_at_call 20; refine (fopen_bad (HV.out.same H1.out) hx5 pages HB.out).mono ?_; rintro e w2 ⟨rfl, rfl⟩
      go_wp2_with fail
      go_ret
      exact ⟨rfl, H1.out⟩

end Go.Proofs.YtbebjpdbnpdpfaaDoor
