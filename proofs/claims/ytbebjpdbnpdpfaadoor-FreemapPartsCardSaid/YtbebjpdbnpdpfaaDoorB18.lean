/- The walk of the law FreemapParts. -/
import Derived.Test.YtbebjpdbnpdpfaaDoorB17
import Derived.Test.YtbebjpdbnpdpfaaDoorB12
set_option maxRecDepth 100000
set_option linter.unusedVariables false
set_option linter.unusedSimpArgs false
namespace Go.Proofs.YtbebjpdbnpdpfaaDoor
open Go.RowKit

set_option maxHeartbeats 40000000 in
theorem fparts {w : World} (hT : Tab w) (pages : Int) (a1 : Option Addr) (xs : List Int) (c1 : Nat) (hV : View w a1 (zints xs)) (hn1 : a1 = none → c1 = 0) (a2 : Option Addr) (n2 c2 : Nat) (hA : Acts w a2 n2) (hn2 : n2 ≤ c2) (hcap : c2 ≤ maxLen) :
    Calls Tryd.prog 7 #[.int .i64 pages, .slice a1 xs.length c1, .slice a2 n2 c2] w fun e w' => e = .returned (.bool true) ∧ Same w w' := by
  have HT := Lib.hid hT
  have HV := Lib.hid hV
  have HA := Lib.hid hA
  have HN1 := Lib.hid hn1
  clear hT hV hA hn1
  by_cases hlen : 5000 < xs.length
  · have hl' : (5000 : Int) < xs.length := by omega
    go_enter Tryd.func7, Tryd.ntmps7
    go_wp2_with fail
    go_at_call 19; refine (flive HT.out).mono ?_; rintro e w1 ⟨rfl, h1⟩
    have H1 := Lib.hid h1
    clear h1
    go_wp2_with fail
    go_at_call 19; refine (flive (HT.out.same H1.out)).mono ?_; rintro e w2 ⟨rfl, h2⟩
    go_wp2_with fail
    go_ret
    exact ⟨rfl, H1.out.trans h2⟩
  · have hl' : (xs.length : Int) ≤ 5000 := by omega
    have hl'' : ¬ (5000 : Int) < xs.length := by omega
    have hx5 : xs.length ≤ 100000 := by omega
    clear hlen
    by_cases hok : (8 ≤ pages ∧ pages ≤ 2048) ∧ okList pages (-1) xs = true
    · obtain ⟨⟨h8, h20⟩, hok⟩ := hok
      obtain ⟨ns, rfl⟩ := okList_nat (by omega) hok
      obtain ⟨n, rfl⟩ : ∃ n : Nat, pages = n := ⟨pages.toNat, by omega⟩
      rw [natsZ_len] at hl' hl'' hx5
      rw [← ints_z] at HV
      have HK := Lib.hid hok
      clear hok
      have n8 : 8 ≤ n := by omega
      have n20 : n ≤ 2048 := by omega
      simp only [natsZ_len]
      go_enter Tryd.func7, Tryd.ntmps7
      go_wp2_with fail
      go_at_call 19; refine (flive HT.out).mono ?_; rintro e w1 ⟨rfl, h1⟩
      have H1 := Lib.hid h1
      clear h1
      go_wp2_with fail
      go_at_call 20; refine (fopen (HV.out.same H1.out) hx5 n n8 n20 HK.out).mono ?_; rintro e w2 ⟨m, f, fw, h, hw, o, ow, s, sw, rfl, hM, hs, hown⟩
      have H2 := Lib.hid (⟨hM, hs, hown⟩ : _ ∧ _ ∧ _)
      clear hM hs hown
      go_wp2_with fail
      go_at_call 21; refine (nclone (HV.out.same (H1.out.trans H2.out.2.1)) hx5 HN1.out).mono ?_; rintro e w3 ⟨v, rfl, hn⟩
      obtain ⟨a9, c9, e9, -⟩ := hn.form
      have HN := Lib.hid hn
      clear hn
      subst e9
      have hcs : Hid (∃ cs : List Nat, cs = ns) := ⟨ns, rfl⟩
      have K0 : Hid (∀ W e ec, Same w3 W → Blk W e 44 ec → KeepI w n m ns (.slice a9 ns.length c9) e ec W) := fun W e ec hs hb => by
        have hlen : (notB (listB n ns)).length = n := by unfold listB notB; rw [List.length_map, addAll_len, List.length_replicate]
        have hnn : notB (notB (listB n ns)) = listB n ns := notB_notB _
        have hsz := H1.out.size
        exact ⟨⟨f, fw, h, hw, o, ow, s, sw, _, _, _, _, (H2.out.1.same HN.out.2.1).same hs, Inv.fresh hlen, by rw [hnn, elems_list HK.out], fun k hk => by have := H2.out.2.2 k hk; omega⟩, HN.out.1.same hs, hb, ((H1.out.trans H2.out.2.1).trans HN.out.2.1).trans hs, HT.out⟩
      go_upto_region 7 with fail
      go_cut [47, 48, 49] from 43 to 49 (fun s m i wx => ∃ N : Nat, N ≤ n2 ∧ N ≤ 80 ∧ s = .slice a2 N c2 ∧ m = .int .i64 N ∧ i = .int .i64 0 ∧ wx = w3)
      case first =>
        by_cases hmin : n2 ≤ 80
        · have hmin' : (n2 : Int) ≤ 80 := by omega
          have hmin'' : ¬ (80 : Int) < n2 := by omega
          go_wp2_with fail
          go_meet
          exact ⟨n2, Nat.le_refl _, hmin, rfl, rfl, rfl, rfl⟩
        · have hmin' : (80 : Int) < n2 := by omega
          go_wp2_with fail
          go_meet
          exact ⟨80, by omega, Nat.le_refl _, rfl, rfl, rfl, rfl⟩
      case rest =>
        obtain ⟨N, hNn, hN80, rfl, rfl, rfl, rfl⟩ := hcut
        go_wp2_with fail
        go_loopw [9, 49] (fun v i wr => ∃ (k : Nat) (b : Option Addr) (c : Nat) (cs : List Nat), k ≤ N ∧ cs.length ≤ 100000 ∧ i = .int .i64 k ∧ v = .slice b cs.length c ∧ Hid (Same w wr ∧ ∀ W e ec, Same wr W → Blk W e 44 ec → KeepI w n m cs v e ec W)) (fun _ i _ => N - (intOf i).toNat)
        case atStart => exact ⟨0, a9, c9, ns, Nat.zero_le _, hx5, rfl, rfl, (H1.out.trans H2.out.2.1).trans HN.out.2.1, K0.out⟩
        case round =>
          obtain ⟨k, b, c, cs, hk, hcl, rfl, rfl, HR⟩ := hrel
          by_cases hlt : k < N
          · obtain ⟨ab, ao, p, q, rfl, hq0, hq1⟩ := HA.out k (by omega)
            have hsw := HR.out.1
            have hcq : ∀ o v, w.cell? ⟨ab, o, none⟩ = some v → wr.cell? ⟨ab, o, none⟩ = some v := fun o v h => (World.cell?_of_block (hsw.keep ab (World.block_lt_of_cell? w _ h) id)).trans h
            have hq0' := hcq _ _ hq0
            have hq1' := hcq _ _ hq1
            have KK := Lib.hid (HR.out.2 _ wr.heap.size [.int .i64 p, .int .i64 q] (Chg.alloc _ wr (.cells #[.int .i64 p, .int .i64 q] 44)) (Blk.newA wr 44 #[.int .i64 p, .int .i64 q]))
            clear hq0 hq1 hsw hcq
            have hi : (k : Int) < N := by omega
            have hk0 : (0 : Int) ≤ k := by omega
            have e1 := KK.out.op.cell 1
            go_wp2_with fail
            go_at_call 27; refine (t_taken KK.out).mono ?_; rintro e w3' ⟨v12, ts, rfl, hn12, htl, hKT⟩
            obtain ⟨b12, c12, e12, hv12⟩ := hn12.form
            have KT := Lib.hid hKT
            have HV12 := Lib.hid hv12
            have HR12 := Lib.hid hn12.1
            have e0 := hKT.op.cell 0
            have e1' := hKT.op.cell 1
            have ht5 : ts.length ≤ 100000 := by omega
            clear hKT hv12 hn12
            subst e12
            by_cases p0 : p = 0
            · have q0 : (p == 0) = true := by simp; exact p0
              clear p0
              go_wp2_with fail
              go_at_call 22; refine (k_alloc KT.out.keep).mono ?_; rintro e w5 ⟨pp, cc, rfl, hK, -⟩
              have K5 := Lib.hid hK
              clear hK e0 e1 e1'
              obtain ⟨⟨f5, fw5, h5, hw5, o5, ow5, s5, sw5, F5, H5, O5, S5, M5, I5, hc5, hown5⟩, r2, r3, r4, r5⟩ := K5.out
              have HM5 := Lib.hid M5
              have HI5 := Lib.hid I5
              have hT5 := Lib.hid K5.out.tab
              have hsum := I5.all
              have hb1 : (takenL F5 H5).length ≤ 2048 := by omega
              have hb2 : H5.count true ≤ 2048 := by omega
              have hb3 : F5.count true ≤ 2048 := by omega
              have hne : ((((takenL F5 H5).length : Nat) : Int) + ((H5.count true : Nat) : Int) + ((F5.count true : Nat) : Int) != (n : Int)) = false := by simp; omega
              have hFl : F5.length = n := I5.lF
              clear M5 I5 hc5 hown5 r2 r3 r4 r5 hsum
              go_wp2_with fail
              go_at_call 27; refine (ftaken HM5.out).mono ?_; rintro e w6 ⟨v6, rfl, hn6⟩
              obtain ⟨b6, c6, e6, -⟩ := hn6.form
              have S6 := Lib.hid hn6.2.1
              clear hn6
              subst e6
              go_wp2_with fail
              go_at_call 38; refine (fheld (HM5.out.same S6.out)).mono ?_; rintro e w7 ⟨rfl, rfl⟩
              go_wp2_with fail
              go_at_call 39; refine (favail (HM5.out.same S6.out)).mono ?_; rintro e w7 ⟨rfl, rfl⟩
              go_wp2_with fail
              go_at_call 41; refine (fall m w6).mono ?_; rintro e w7 ⟨rfl, rfl⟩
              go_wp2_with fail
              go_at_call 40; refine (ftold_of (HM5.out.same (S6.out.trans (Chg.alloc _ _ _))) (hT5.out.same (S6.out.trans (Chg.alloc _ _ _))) (Blk.newA w6 39 #[at0 m]) 1048576).mono ?_; rintro e w8 ⟨v8, rfl, hn8⟩
              rw [List.take_of_length_le (by have := elems_len_le F5; simp; omega)] at hn8
              obtain ⟨b8, c8, e8, hv8⟩ := hn8.form
              have S8 := Lib.hid ((S6.out.trans (Chg.alloc _ _ _)).trans hn8.2.1)
              have HV8 := Lib.hid hv8
              clear hn8 hv8
              subst e8
              have hel := elems_len_le F5
              go_wp2_with fail
              go_loopw [123] (fun j wq => ∃ t dd : Nat, t ≤ (elems F5).length ∧ j = .int .i64 t ∧ wq = w8.drewN dd) (fun j _ => (elems F5).length - (intOf j).toNat)
              case atStart => exact ⟨0, 0, Nat.zero_le _, rfl, rfl⟩
              case round =>
                obtain ⟨t, dd, ht, rfl, rfl⟩ := hrel
                by_cases htl : t < (elems F5).length
                · obtain ⟨b7, o7, rfl, hc7⟩ := HV8.out t _ (ints_get htl)
                  have hi7 : (t : Int) < (elems F5).length := by omega
                  have hmem : (elems F5)[t] ∈ elems F5 := List.getElem_mem _
                  have hx1 := elems_mem.1 hmem
                  have hx2 := elems_lt hmem
                  obtain ⟨x, hx⟩ : ∃ x, x = (elems F5)[t] := ⟨_, rfl⟩
                  rw [← hx] at hc7 hx1 hx2
                  have hh : hasM F5 H5 (x : Int) = false := by rw [hasM_nat hx2, hx1]; rfl
                  have ho : hasB O5 (x : Int) = false := by
                    have := HI5.out.a x
                    rw [hx1] at this
                    rw [hasB_get (by omega), Int.toNat_natCast]
                    cases ho : O5.getD x false with
                    | false => rfl
                    | true => rw [ho] at this; simp at this
                  have HH := Lib.hid hh
                  have HO5 := Lib.hid ho
                  have hxn : (x : Int) < n := by omega
                  have hx0 : (0 : Int) ≤ x := by omega
                  have MD := Lib.hid (HM5.out.same (S8.out.trans (Chg.drewN _ _ dd)))
                  clear hmem hx1 hx2 hx hh ho
                  go_wp2_with fail
                  go_at_call 42; refine (fhas MD.out (x : Int)).mono ?_; rintro e w9 ⟨rfl, d2, rfl⟩; rw [HH.out]
                  go_wp2_with fail
                  go_at_call 43; refine (fmine (HM5.out.same (S8.out.trans (Chg.drewN _ _ (dd + d2)))) (x : Int)).mono ?_; rintro e w9 ⟨rfl, d3, rfl⟩; rw [HO5.out]
                  go_wp2_with fail
                  go_roundw
                  case rel => exact ⟨t + 1, dd + d2 + d3, by omega, by go_num, by simp [World.drewN_drewN, Nat.add_assoc]⟩
                  case measure => simp [intOf]; omega
                · have KD := Lib.hid (K5.out.to (S8.out.trans (Chg.drewN _ _ dd)))
                  go_wp2_with fail
                  go_roundw
                  case rel => exact ⟨k + 1, b, c, cs, by omega, hcl, by go_num, rfl, KD.out.same, fun W e ec hs hb => KD.out.with_ hs hb⟩
                  case measure => simp [intOf]; omega
            · have q0 : (p == 0) = false := by simp; exact p0
              by_cases p1 : p = 1
              · have q1 : (p == 1) = true := by simp; exact p1
                clear p0 p1
                go_wp2_with fail
                go_at_call 24; refine (k_run KT.out.keep q).mono ?_; rintro e w5 ⟨pp, cc, rfl, hK, -⟩
                have K5 := Lib.hid hK
                clear hK e0 e1 e1'
                obtain ⟨⟨f5, fw5, h5, hw5, o5, ow5, s5, sw5, F5, H5, O5, S5, M5, I5, hc5, hown5⟩, r2, r3, r4, r5⟩ := K5.out
                have HM5 := Lib.hid M5
                have HI5 := Lib.hid I5
                have hT5 := Lib.hid K5.out.tab
                have hsum := I5.all
                have hb1 : (takenL F5 H5).length ≤ 2048 := by omega
                have hb2 : H5.count true ≤ 2048 := by omega
                have hb3 : F5.count true ≤ 2048 := by omega
                have hne : ((((takenL F5 H5).length : Nat) : Int) + ((H5.count true : Nat) : Int) + ((F5.count true : Nat) : Int) != (n : Int)) = false := by simp; omega
                have hFl : F5.length = n := I5.lF
                clear M5 I5 hc5 hown5 r2 r3 r4 r5 hsum
                go_wp2_with fail
                go_at_call 27; refine (ftaken HM5.out).mono ?_; rintro e w6 ⟨v6, rfl, hn6⟩
                obtain ⟨b6, c6, e6, -⟩ := hn6.form
                have S6 := Lib.hid hn6.2.1
                clear hn6
                subst e6
                go_wp2_with fail
                go_at_call 38; refine (fheld (HM5.out.same S6.out)).mono ?_; rintro e w7 ⟨rfl, rfl⟩
                go_wp2_with fail
                go_at_call 39; refine (favail (HM5.out.same S6.out)).mono ?_; rintro e w7 ⟨rfl, rfl⟩
                go_wp2_with fail
                go_at_call 41; refine (fall m w6).mono ?_; rintro e w7 ⟨rfl, rfl⟩
                go_wp2_with fail
                go_at_call 40; refine (ftold_of (HM5.out.same (S6.out.trans (Chg.alloc _ _ _))) (hT5.out.same (S6.out.trans (Chg.alloc _ _ _))) (Blk.newA w6 39 #[at0 m]) 1048576).mono ?_; rintro e w8 ⟨v8, rfl, hn8⟩
                rw [List.take_of_length_le (by have := elems_len_le F5; simp; omega)] at hn8
                obtain ⟨b8, c8, e8, hv8⟩ := hn8.form
                have S8 := Lib.hid ((S6.out.trans (Chg.alloc _ _ _)).trans hn8.2.1)
                have HV8 := Lib.hid hv8
                clear hn8 hv8
                subst e8
                have hel := elems_len_le F5
                go_wp2_with fail
                go_loopw [123] (fun j wq => ∃ t dd : Nat, t ≤ (elems F5).length ∧ j = .int .i64 t ∧ wq = w8.drewN dd) (fun j _ => (elems F5).length - (intOf j).toNat)
                case atStart => exact ⟨0, 0, Nat.zero_le _, rfl, rfl⟩
                case round =>
                  obtain ⟨t, dd, ht, rfl, rfl⟩ := hrel
                  by_cases htl : t < (elems F5).length
                  · obtain ⟨b7, o7, rfl, hc7⟩ := HV8.out t _ (ints_get htl)
                    have hi7 : (t : Int) < (elems F5).length := by omega
                    have hmem : (elems F5)[t] ∈ elems F5 := List.getElem_mem _
                    have hx1 := elems_mem.1 hmem
                    have hx2 := elems_lt hmem
                    obtain ⟨x, hx⟩ : ∃ x, x = (elems F5)[t] := ⟨_, rfl⟩
                    rw [← hx] at hc7 hx1 hx2
                    have hh : hasM F5 H5 (x : Int) = false := by rw [hasM_nat hx2, hx1]; rfl
                    have ho : hasB O5 (x : Int) = false := by
                      have := HI5.out.a x
                      rw [hx1] at this
                      rw [hasB_get (by omega), Int.toNat_natCast]
                      cases ho : O5.getD x false with
                      | false => rfl
                      | true => rw [ho] at this; simp at this
                    have HH := Lib.hid hh
                    have HO5 := Lib.hid ho
                    have hxn : (x : Int) < n := by omega
                    have hx0 : (0 : Int) ≤ x := by omega
                    have MD := Lib.hid (HM5.out.same (S8.out.trans (Chg.drewN _ _ dd)))
                    clear hmem hx1 hx2 hx hh ho
                    go_wp2_with fail
                    go_at_call 42; refine (fhas MD.out (x : Int)).mono ?_; rintro e w9 ⟨rfl, d2, rfl⟩; rw [HH.out]
                    go_wp2_with fail
                    go_at_call 43; refine (fmine (HM5.out.same (S8.out.trans (Chg.drewN _ _ (dd + d2)))) (x : Int)).mono ?_; rintro e w9 ⟨rfl, d3, rfl⟩; rw [HO5.out]
                    go_wp2_with fail
                    go_roundw
                    case rel => exact ⟨t + 1, dd + d2 + d3, by omega, by go_num, by simp [World.drewN_drewN, Nat.add_assoc]⟩
                    case measure => simp [intOf]; omega
                  · have KD := Lib.hid (K5.out.to (S8.out.trans (Chg.drewN _ _ dd)))
                    go_wp2_with fail
                    go_roundw
                    case rel => exact ⟨k + 1, b, c, cs, by omega, hcl, by go_num, rfl, KD.out.same, fun W e ec hs hb => KD.out.with_ hs hb⟩
                    case measure => simp [intOf]; omega
              · have q1 : (p == 1) = false := by simp; exact p1
                by_cases p2 : p = 2
                · have q2 : (p == 2) = true := by simp; exact p2
                  clear p0 p1 p2
                  go_wp2_with fail
                  go_at_call 25; refine (k_free KT.out.keep q).mono ?_; rintro e w5 ⟨⟨c4, rfl⟩, hK⟩
                  have K5 := Lib.hid hK
                  clear hK e0 e1 e1'
                  obtain ⟨⟨f5, fw5, h5, hw5, o5, ow5, s5, sw5, F5, H5, O5, S5, M5, I5, hc5, hown5⟩, r2, r3, r4, r5⟩ := K5.out
                  have HM5 := Lib.hid M5
                  have HI5 := Lib.hid I5
                  have hT5 := Lib.hid K5.out.tab
                  have hsum := I5.all
                  have hb1 : (takenL F5 H5).length ≤ 2048 := by omega
                  have hb2 : H5.count true ≤ 2048 := by omega
                  have hb3 : F5.count true ≤ 2048 := by omega
                  have hne : ((((takenL F5 H5).length : Nat) : Int) + ((H5.count true : Nat) : Int) + ((F5.count true : Nat) : Int) != (n : Int)) = false := by simp; omega
                  have hFl : F5.length = n := I5.lF
                  clear M5 I5 hc5 hown5 r2 r3 r4 r5 hsum
                  go_wp2_with fail
                  go_at_call 27; refine (ftaken HM5.out).mono ?_; rintro e w6 ⟨v6, rfl, hn6⟩
                  obtain ⟨b6, c6, e6, -⟩ := hn6.form
                  have S6 := Lib.hid hn6.2.1
                  clear hn6
                  subst e6
                  go_wp2_with fail
                  go_at_call 38; refine (fheld (HM5.out.same S6.out)).mono ?_; rintro e w7 ⟨rfl, rfl⟩
                  go_wp2_with fail
                  go_at_call 39; refine (favail (HM5.out.same S6.out)).mono ?_; rintro e w7 ⟨rfl, rfl⟩
                  go_wp2_with fail
                  go_at_call 41; refine (fall m w6).mono ?_; rintro e w7 ⟨rfl, rfl⟩
                  go_wp2_with fail
                  go_at_call 40; refine (ftold_of (HM5.out.same (S6.out.trans (Chg.alloc _ _ _))) (hT5.out.same (S6.out.trans (Chg.alloc _ _ _))) (Blk.newA w6 39 #[at0 m]) 1048576).mono ?_; rintro e w8 ⟨v8, rfl, hn8⟩
                  rw [List.take_of_length_le (by have := elems_len_le F5; simp; omega)] at hn8
                  obtain ⟨b8, c8, e8, hv8⟩ := hn8.form
                  have S8 := Lib.hid ((S6.out.trans (Chg.alloc _ _ _)).trans hn8.2.1)
                  have HV8 := Lib.hid hv8
                  clear hn8 hv8
                  subst e8
                  have hel := elems_len_le F5
                  go_wp2_with fail
                  go_loopw [123] (fun j wq => ∃ t dd : Nat, t ≤ (elems F5).length ∧ j = .int .i64 t ∧ wq = w8.drewN dd) (fun j _ => (elems F5).length - (intOf j).toNat)
                  case atStart => exact ⟨0, 0, Nat.zero_le _, rfl, rfl⟩
                  case round =>
                    obtain ⟨t, dd, ht, rfl, rfl⟩ := hrel
                    by_cases htl : t < (elems F5).length
                    · obtain ⟨b7, o7, rfl, hc7⟩ := HV8.out t _ (ints_get htl)
                      have hi7 : (t : Int) < (elems F5).length := by omega
                      have hmem : (elems F5)[t] ∈ elems F5 := List.getElem_mem _
                      have hx1 := elems_mem.1 hmem
                      have hx2 := elems_lt hmem
                      obtain ⟨x, hx⟩ : ∃ x, x = (elems F5)[t] := ⟨_, rfl⟩
                      rw [← hx] at hc7 hx1 hx2
                      have hh : hasM F5 H5 (x : Int) = false := by rw [hasM_nat hx2, hx1]; rfl
                      have ho : hasB O5 (x : Int) = false := by
                        have := HI5.out.a x
                        rw [hx1] at this
                        rw [hasB_get (by omega), Int.toNat_natCast]
                        cases ho : O5.getD x false with
                        | false => rfl
                        | true => rw [ho] at this; simp at this
                      have HH := Lib.hid hh
                      have HO5 := Lib.hid ho
                      have hxn : (x : Int) < n := by omega
                      have hx0 : (0 : Int) ≤ x := by omega
                      have MD := Lib.hid (HM5.out.same (S8.out.trans (Chg.drewN _ _ dd)))
                      clear hmem hx1 hx2 hx hh ho
                      go_wp2_with fail
                      go_at_call 42; refine (fhas MD.out (x : Int)).mono ?_; rintro e w9 ⟨rfl, d2, rfl⟩; rw [HH.out]
                      go_wp2_with fail
                      go_at_call 43; refine (fmine (HM5.out.same (S8.out.trans (Chg.drewN _ _ (dd + d2)))) (x : Int)).mono ?_; rintro e w9 ⟨rfl, d3, rfl⟩; rw [HO5.out]
                      go_wp2_with fail
                      go_roundw
                      case rel => exact ⟨t + 1, dd + d2 + d3, by omega, by go_num, by simp [World.drewN_drewN, Nat.add_assoc]⟩
                      case measure => simp [intOf]; omega
                    · have KD := Lib.hid (K5.out.to (S8.out.trans (Chg.drewN _ _ dd)))
                      go_wp2_with fail
                      go_roundw
                      case rel => exact ⟨k + 1, b, c, cs, by omega, hcl, by go_num, rfl, KD.out.same, fun W e ec hs hb => KD.out.with_ hs hb⟩
                      case measure => simp [intOf]; omega
                · have q2 : (p == 2) = false := by simp; exact p2
                  by_cases p3 : p = 3
                  · have q3 : (p == 3) = true := by simp; exact p3
                    clear p0 p1 p2 p3
                    go_wp2_with fail
                    go_at_call 26; refine (t_commit KT.out).mono ?_; rintro e w4 ⟨rfl, hF, hB, hS, hRows⟩
                    have K4 := Lib.hid (⟨hF, hB, hS⟩ : _ ∧ _ ∧ _)
                    have R4 := Lib.hid (hRows _ _ HR12.out)
                    clear hF hB hS hRows e0 e1 e1'
                    go_wp2_with fail
                    go_at_call 27; refine (k_taken K4.out.1).mono ?_; rintro e w5 ⟨v', rfl, hn⟩
                    obtain ⟨b', c', e', hv'⟩ := hn.form
                    have KA := Lib.hid ((K4.out.1.same hn.2.1).keep HT.out (R4.out.same hn.2.1) (K4.out.2.1.same hn.2.1) (K4.out.2.2.trans hn.2.1))
                    have FA := Lib.hid (K4.out.1.same hn.2.1)
                    have HV5 := Lib.hid hv'
                    clear hn hv'
                    subst e'
                    go_wp2_with fail
                    go_at_call 29; refine (nequal HV5.out KA.out.view ht5).mono ?_; rintro e w6' ⟨rfl, dd', rfl⟩
                    have K5 := Lib.hid (KA.out.to (Chg.drewN _ _ dd'))
                    go_wp2_with fail
                    go_at_call 38; refine (t_held (FA.out.same (Chg.drewN _ _ dd'))).mono ?_; rintro e w7' ⟨rfl, rfl⟩
                    obtain ⟨⟨f5, fw5, h5, hw5, o5, ow5, s5, sw5, F5, H5, O5, S5, M5, I5, hc5, hown5⟩, r2, r3, r4, r5⟩ := K5.out
                    have HM5 := Lib.hid M5
                    have HI5 := Lib.hid I5
                    have hT5 := Lib.hid K5.out.tab
                    have hsum := I5.all
                    have hb1 : (takenL F5 H5).length ≤ 2048 := by omega
                    have hb2 : H5.count true ≤ 2048 := by omega
                    have hb3 : F5.count true ≤ 2048 := by omega
                    have hne : ((((takenL F5 H5).length : Nat) : Int) + ((H5.count true : Nat) : Int) + ((F5.count true : Nat) : Int) != (n : Int)) = false := by simp; omega
                    have hFl : F5.length = n := I5.lF
                    clear M5 I5 hc5 hown5 r2 r3 r4 r5 hsum
                    go_wp2_with fail
                    go_at_call 27; refine (ftaken HM5.out).mono ?_; rintro e w6 ⟨v6, rfl, hn6⟩
                    obtain ⟨b6, c6, e6, -⟩ := hn6.form
                    have S6 := Lib.hid hn6.2.1
                    clear hn6
                    subst e6
                    go_wp2_with fail
                    go_at_call 38; refine (fheld (HM5.out.same S6.out)).mono ?_; rintro e w7 ⟨rfl, rfl⟩
                    go_wp2_with fail
                    go_at_call 39; refine (favail (HM5.out.same S6.out)).mono ?_; rintro e w7 ⟨rfl, rfl⟩
                    go_wp2_with fail
                    go_at_call 41; refine (fall m w6).mono ?_; rintro e w7 ⟨rfl, rfl⟩
                    go_wp2_with fail
                    go_at_call 40; refine (ftold_of (HM5.out.same (S6.out.trans (Chg.alloc _ _ _))) (hT5.out.same (S6.out.trans (Chg.alloc _ _ _))) (Blk.newA w6 39 #[at0 m]) 1048576).mono ?_; rintro e w8 ⟨v8, rfl, hn8⟩
                    rw [List.take_of_length_le (by have := elems_len_le F5; simp; omega)] at hn8
                    obtain ⟨b8, c8, e8, hv8⟩ := hn8.form
                    have S8 := Lib.hid ((S6.out.trans (Chg.alloc _ _ _)).trans hn8.2.1)
                    have HV8 := Lib.hid hv8
                    clear hn8 hv8
                    subst e8
                    have hel := elems_len_le F5
                    go_wp2_with fail
                    go_loopw [123] (fun j wq => ∃ t dd : Nat, t ≤ (elems F5).length ∧ j = .int .i64 t ∧ wq = w8.drewN dd) (fun j _ => (elems F5).length - (intOf j).toNat)
                    case atStart => exact ⟨0, 0, Nat.zero_le _, rfl, rfl⟩
                    case round =>
                      obtain ⟨t, dd, ht, rfl, rfl⟩ := hrel
                      by_cases htl : t < (elems F5).length
                      · obtain ⟨b7, o7, rfl, hc7⟩ := HV8.out t _ (ints_get htl)
                        have hi7 : (t : Int) < (elems F5).length := by omega
                        have hmem : (elems F5)[t] ∈ elems F5 := List.getElem_mem _
                        have hx1 := elems_mem.1 hmem
                        have hx2 := elems_lt hmem
                        obtain ⟨x, hx⟩ : ∃ x, x = (elems F5)[t] := ⟨_, rfl⟩
                        rw [← hx] at hc7 hx1 hx2
                        have hh : hasM F5 H5 (x : Int) = false := by rw [hasM_nat hx2, hx1]; rfl
                        have ho : hasB O5 (x : Int) = false := by
                          have := HI5.out.a x
                          rw [hx1] at this
                          rw [hasB_get (by omega), Int.toNat_natCast]
                          cases ho : O5.getD x false with
                          | false => rfl
                          | true => rw [ho] at this; simp at this
                        have HH := Lib.hid hh
                        have HO5 := Lib.hid ho
                        have hxn : (x : Int) < n := by omega
                        have hx0 : (0 : Int) ≤ x := by omega
                        have MD := Lib.hid (HM5.out.same (S8.out.trans (Chg.drewN _ _ dd)))
                        clear hmem hx1 hx2 hx hh ho
                        go_wp2_with fail
                        go_at_call 42; refine (fhas MD.out (x : Int)).mono ?_; rintro e w9 ⟨rfl, d2, rfl⟩; rw [HH.out]
                        go_wp2_with fail
                        go_at_call 43; refine (fmine (HM5.out.same (S8.out.trans (Chg.drewN _ _ (dd + d2)))) (x : Int)).mono ?_; rintro e w9 ⟨rfl, d3, rfl⟩; rw [HO5.out]
                        go_wp2_with fail
                        go_roundw
                        case rel => exact ⟨t + 1, dd + d2 + d3, by omega, by go_num, by simp [World.drewN_drewN, Nat.add_assoc]⟩
                        case measure => simp [intOf]; omega
                      · have KD := Lib.hid (K5.out.to (S8.out.trans (Chg.drewN _ _ dd)))
                        go_wp2_with fail
                        go_roundw
                        case rel => exact ⟨k + 1, b12, c12, ts, by omega, ht5, by go_num, rfl, KD.out.same, fun W e ec hs hb => KD.out.with_ hs hb⟩
                        case measure => simp [intOf]; omega
                  · have q3 : (p == 3) = false := by simp; exact p3
                    by_cases p4 : p = 4
                    · have q4 : (p == 4) = true := by simp; exact p4
                      clear p0 p1 p2 p3 p4
                      go_wp2_with fail
                      go_at_call 28; refine (k_abort KT.out.keep).mono ?_; rintro e w4 ⟨rfl, hF, hR, hB, hS⟩
                      have K4 := Lib.hid (⟨hF, hR, hB, hS⟩ : _ ∧ _ ∧ _ ∧ _)
                      clear hF hR hB hS e0 e1 e1'
                      go_wp2_with fail
                      go_at_call 27; refine (k_taken K4.out.1).mono ?_; rintro e w5 ⟨v', rfl, hn⟩
                      obtain ⟨b', c', e', hv'⟩ := hn.form
                      have KA := Lib.hid ((K4.out.1.same hn.2.1).keep HT.out (K4.out.2.1.same hn.2.1) (K4.out.2.2.1.same hn.2.1) (K4.out.2.2.2.trans hn.2.1))
                      have FA := Lib.hid (K4.out.1.same hn.2.1)
                      have HV5 := Lib.hid hv'
                      clear hn hv'
                      subst e'
                      go_wp2_with fail
                      go_at_call 29; refine (nequal HV5.out KA.out.view hcl).mono ?_; rintro e w6' ⟨rfl, dd', rfl⟩
                      have K5 := Lib.hid (KA.out.to (Chg.drewN _ _ dd'))
                      go_wp2_with fail
                      go_at_call 38; refine (t_held (FA.out.same (Chg.drewN _ _ dd'))).mono ?_; rintro e w7' ⟨rfl, rfl⟩
                      obtain ⟨⟨f5, fw5, h5, hw5, o5, ow5, s5, sw5, F5, H5, O5, S5, M5, I5, hc5, hown5⟩, r2, r3, r4, r5⟩ := K5.out
                      have HM5 := Lib.hid M5
                      have HI5 := Lib.hid I5
                      have hT5 := Lib.hid K5.out.tab
                      have hsum := I5.all
                      have hb1 : (takenL F5 H5).length ≤ 2048 := by omega
                      have hb2 : H5.count true ≤ 2048 := by omega
                      have hb3 : F5.count true ≤ 2048 := by omega
                      have hne : ((((takenL F5 H5).length : Nat) : Int) + ((H5.count true : Nat) : Int) + ((F5.count true : Nat) : Int) != (n : Int)) = false := by simp; omega
                      have hFl : F5.length = n := I5.lF
                      clear M5 I5 hc5 hown5 r2 r3 r4 r5 hsum
                      go_wp2_with fail
                      go_at_call 27; refine (ftaken HM5.out).mono ?_; rintro e w6 ⟨v6, rfl, hn6⟩
                      obtain ⟨b6, c6, e6, -⟩ := hn6.form
                      have S6 := Lib.hid hn6.2.1
                      clear hn6
                      subst e6
                      go_wp2_with fail
                      go_at_call 38; refine (fheld (HM5.out.same S6.out)).mono ?_; rintro e w7 ⟨rfl, rfl⟩
                      go_wp2_with fail
                      go_at_call 39; refine (favail (HM5.out.same S6.out)).mono ?_; rintro e w7 ⟨rfl, rfl⟩
                      go_wp2_with fail
                      go_at_call 41; refine (fall m w6).mono ?_; rintro e w7 ⟨rfl, rfl⟩
                      go_wp2_with fail
                      go_at_call 40; refine (ftold_of (HM5.out.same (S6.out.trans (Chg.alloc _ _ _))) (hT5.out.same (S6.out.trans (Chg.alloc _ _ _))) (Blk.newA w6 39 #[at0 m]) 1048576).mono ?_; rintro e w8 ⟨v8, rfl, hn8⟩
                      rw [List.take_of_length_le (by have := elems_len_le F5; simp; omega)] at hn8
                      obtain ⟨b8, c8, e8, hv8⟩ := hn8.form
                      have S8 := Lib.hid ((S6.out.trans (Chg.alloc _ _ _)).trans hn8.2.1)
                      have HV8 := Lib.hid hv8
                      clear hn8 hv8
                      subst e8
                      have hel := elems_len_le F5
                      go_wp2_with fail
                      go_loopw [123] (fun j wq => ∃ t dd : Nat, t ≤ (elems F5).length ∧ j = .int .i64 t ∧ wq = w8.drewN dd) (fun j _ => (elems F5).length - (intOf j).toNat)
                      case atStart => exact ⟨0, 0, Nat.zero_le _, rfl, rfl⟩
                      case round =>
                        obtain ⟨t, dd, ht, rfl, rfl⟩ := hrel
                        by_cases htl : t < (elems F5).length
                        · obtain ⟨b7, o7, rfl, hc7⟩ := HV8.out t _ (ints_get htl)
                          have hi7 : (t : Int) < (elems F5).length := by omega
                          have hmem : (elems F5)[t] ∈ elems F5 := List.getElem_mem _
                          have hx1 := elems_mem.1 hmem
                          have hx2 := elems_lt hmem
                          obtain ⟨x, hx⟩ : ∃ x, x = (elems F5)[t] := ⟨_, rfl⟩
                          rw [← hx] at hc7 hx1 hx2
                          have hh : hasM F5 H5 (x : Int) = false := by rw [hasM_nat hx2, hx1]; rfl
                          have ho : hasB O5 (x : Int) = false := by
                            have := HI5.out.a x
                            rw [hx1] at this
                            rw [hasB_get (by omega), Int.toNat_natCast]
                            cases ho : O5.getD x false with
                            | false => rfl
                            | true => rw [ho] at this; simp at this
                          have HH := Lib.hid hh
                          have HO5 := Lib.hid ho
                          have hxn : (x : Int) < n := by omega
                          have hx0 : (0 : Int) ≤ x := by omega
                          have MD := Lib.hid (HM5.out.same (S8.out.trans (Chg.drewN _ _ dd)))
                          clear hmem hx1 hx2 hx hh ho
                          go_wp2_with fail
                          go_at_call 42; refine (fhas MD.out (x : Int)).mono ?_; rintro e w9 ⟨rfl, d2, rfl⟩; rw [HH.out]
                          go_wp2_with fail
                          go_at_call 43; refine (fmine (HM5.out.same (S8.out.trans (Chg.drewN _ _ (dd + d2)))) (x : Int)).mono ?_; rintro e w9 ⟨rfl, d3, rfl⟩; rw [HO5.out]
                          go_wp2_with fail
                          go_roundw
                          case rel => exact ⟨t + 1, dd + d2 + d3, by omega, by go_num, by simp [World.drewN_drewN, Nat.add_assoc]⟩
                          case measure => simp [intOf]; omega
                        · have KD := Lib.hid (K5.out.to (S8.out.trans (Chg.drewN _ _ dd)))
                          go_wp2_with fail
                          go_roundw
                          case rel => exact ⟨k + 1, b, c, cs, by omega, hcl, by go_num, rfl, KD.out.same, fun W e ec hs hb => KD.out.with_ hs hb⟩
                          case measure => simp [intOf]; omega
                    · have q4 : (p == 4) = false := by simp; exact p4
                      have K5 := Lib.hid KT.out.keep
                      clear p0 p1 p2 p3 p4 e1 e1'
                      obtain ⟨⟨f5, fw5, h5, hw5, o5, ow5, s5, sw5, F5, H5, O5, S5, M5, I5, hc5, hown5⟩, r2, r3, r4, r5⟩ := K5.out
                      have HM5 := Lib.hid M5
                      have HI5 := Lib.hid I5
                      have hT5 := Lib.hid K5.out.tab
                      have hsum := I5.all
                      have hb1 : (takenL F5 H5).length ≤ 2048 := by omega
                      have hb2 : H5.count true ≤ 2048 := by omega
                      have hb3 : F5.count true ≤ 2048 := by omega
                      have hne : ((((takenL F5 H5).length : Nat) : Int) + ((H5.count true : Nat) : Int) + ((F5.count true : Nat) : Int) != (n : Int)) = false := by simp; omega
                      have hFl : F5.length = n := I5.lF
                      clear M5 I5 hc5 hown5 r2 r3 r4 r5 hsum
                      go_wp2_with fail
                      go_at_call 27; refine (ftaken HM5.out).mono ?_; rintro e w6 ⟨v6, rfl, hn6⟩
                      obtain ⟨b6, c6, e6, -⟩ := hn6.form
                      have S6 := Lib.hid hn6.2.1
                      clear hn6
                      subst e6
                      go_wp2_with fail
                      go_at_call 38; refine (fheld (HM5.out.same S6.out)).mono ?_; rintro e w7 ⟨rfl, rfl⟩
                      go_wp2_with fail
                      go_at_call 39; refine (favail (HM5.out.same S6.out)).mono ?_; rintro e w7 ⟨rfl, rfl⟩
                      go_wp2_with fail
                      go_at_call 41; refine (fall m w6).mono ?_; rintro e w7 ⟨rfl, rfl⟩
                      go_wp2_with fail
                      go_at_call 40; refine (ftold_of (HM5.out.same (S6.out.trans (Chg.alloc _ _ _))) (hT5.out.same (S6.out.trans (Chg.alloc _ _ _))) (Blk.newA w6 39 #[at0 m]) 1048576).mono ?_; rintro e w8 ⟨v8, rfl, hn8⟩
                      rw [List.take_of_length_le (by have := elems_len_le F5; simp; omega)] at hn8
                      obtain ⟨b8, c8, e8, hv8⟩ := hn8.form
                      have S8 := Lib.hid ((S6.out.trans (Chg.alloc _ _ _)).trans hn8.2.1)
                      have HV8 := Lib.hid hv8
                      clear hn8 hv8
                      subst e8
                      have hel := elems_len_le F5
                      go_wp2_with fail
                      go_loopw [123] (fun j wq => ∃ t dd : Nat, t ≤ (elems F5).length ∧ j = .int .i64 t ∧ wq = w8.drewN dd) (fun j _ => (elems F5).length - (intOf j).toNat)
                      case atStart => exact ⟨0, 0, Nat.zero_le _, rfl, rfl⟩
                      case round =>
                        obtain ⟨t, dd, ht, rfl, rfl⟩ := hrel
                        by_cases htl : t < (elems F5).length
                        · obtain ⟨b7, o7, rfl, hc7⟩ := HV8.out t _ (ints_get htl)
                          have hi7 : (t : Int) < (elems F5).length := by omega
                          have hmem : (elems F5)[t] ∈ elems F5 := List.getElem_mem _
                          have hx1 := elems_mem.1 hmem
                          have hx2 := elems_lt hmem
                          obtain ⟨x, hx⟩ : ∃ x, x = (elems F5)[t] := ⟨_, rfl⟩
                          rw [← hx] at hc7 hx1 hx2
                          have hh : hasM F5 H5 (x : Int) = false := by rw [hasM_nat hx2, hx1]; rfl
                          have ho : hasB O5 (x : Int) = false := by
                            have := HI5.out.a x
                            rw [hx1] at this
                            rw [hasB_get (by omega), Int.toNat_natCast]
                            cases ho : O5.getD x false with
                            | false => rfl
                            | true => rw [ho] at this; simp at this
                          have HH := Lib.hid hh
                          have HO5 := Lib.hid ho
                          have hxn : (x : Int) < n := by omega
                          have hx0 : (0 : Int) ≤ x := by omega
                          have MD := Lib.hid (HM5.out.same (S8.out.trans (Chg.drewN _ _ dd)))
                          clear hmem hx1 hx2 hx hh ho
                          go_wp2_with fail
                          go_at_call 42; refine (fhas MD.out (x : Int)).mono ?_; rintro e w9 ⟨rfl, d2, rfl⟩; rw [HH.out]
                          go_wp2_with fail
                          go_at_call 43; refine (fmine (HM5.out.same (S8.out.trans (Chg.drewN _ _ (dd + d2)))) (x : Int)).mono ?_; rintro e w9 ⟨rfl, d3, rfl⟩; rw [HO5.out]
                          go_wp2_with fail
                          go_roundw
                          case rel => exact ⟨t + 1, dd + d2 + d3, by omega, by go_num, by simp [World.drewN_drewN, Nat.add_assoc]⟩
                          case measure => simp [intOf]; omega
                        · have KD := Lib.hid (K5.out.to (S8.out.trans (Chg.drewN _ _ dd)))
                          go_wp2_with fail
                          go_roundw
                          case rel => exact ⟨k + 1, b, c, cs, by omega, hcl, by go_num, rfl, KD.out.same, fun W e ec hs hb => KD.out.with_ hs hb⟩
                          case measure => simp [intOf]; omega
          · go_wp2_with fail
            go_ret
            exact ⟨rfl, HR.out.1⟩
    · have hb : ¬ (8 ≤ pages ∧ pages ≤ 2048) ∨ okList pages (-1) xs = false := by
        by_cases hp : 8 ≤ pages ∧ pages ≤ 2048
        · right
          cases he : okList pages (-1) xs with
          | true => exact absurd ⟨hp, he⟩ hok
          | false => rfl
        · exact .inl hp
      have HB := Lib.hid hb
      clear hok hb
      go_enter Tryd.func7, Tryd.ntmps7
      go_wp2_with fail
      go_at_call 19; refine (flive HT.out).mono ?_; rintro e w1 ⟨rfl, h1⟩
      have H1 := Lib.hid h1
      clear h1
      go_wp2_with fail
      go_at_call 20; refine (fopen_bad (HV.out.same H1.out) hx5 pages HB.out).mono ?_; rintro e w2 ⟨rfl, rfl⟩
      go_wp2_with fail
      go_ret
      exact ⟨rfl, H1.out⟩

end Go.Proofs.YtbebjpdbnpdpfaaDoor
