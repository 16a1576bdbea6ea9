/- The walk of the law FnServedTurn. -/
import Derived.Test.YtbjndbaljenlgaaSvF
import Derived.Test.YtbjndbaljenlgaaEq
namespace Go.Proofs.Ytbjndbaljenlgaa
open Go.RowKit
set_option linter.unusedSimpArgs false
set_option maxRecDepth 100000 in
set_option maxHeartbeats 3200000 in
theorem lawFnServedTurn_c (w : World) (v : Value) (n : Nat) (h : RdB w v n) : Calls Try.prog 6 #[v] w fun e w' => e = .returned (.bool true) ∧ Below w.heap.size w w' := by
  have H := Lib.hid h
  obtain ⟨a, cap, rfl, h1, h2, h3⟩ := h
  unfold maxLen at h2
  clear h3
  by_cases hl : (n : Int) > 1048576
  · go_enter Try.func6, Try.ntmps6
    go_wp2
    go_ret
    exact ⟨rfl, Below.refl _ _⟩
  · go_enter Try.func6, Try.ntmps6
    go_wp2_with fail
    refine (drawServed_c _ n _ H.out).mono ?_
    rintro e w1 ⟨u, G, t, rfl, og, hG7, ht0, ht1, hb1⟩
    have RG := Lib.hid (fun W (hW : Below w1.heap.size w1 W) => (RdS.of_own og).below hW)
    obtain ⟨ag, cg, rfl⟩ := own_slice og
    obtain ⟨hgc1, hgc2⟩ : G.length ≤ cg ∧ cg ≤ maxLen := by
      obtain ⟨a', c', e, h1, h2⟩ := (RdS.of_own og).shape
      simp only [Value.slice.injEq, true_and] at e
      obtain ⟨rfl, rfl⟩ := e
      exact ⟨h1, h2⟩
    unfold maxLen at hgc2
    have HB1 := Lib.hid hb1
    clear og hb1 H
    go_wp2_with fail
    refine (chokeServed_c _ G t _ (RG.out _ (Below.refl _ _)) (by omega)).mono ?_
    rintro e w2 ⟨u1, N, rfl, o2, hy1, hn1, hb2⟩
    have D2 := Lib.hid hb2
    have O2 := Lib.hid o2
    clear o2 hb2
    go_wp2_with fail
    refine (specServed_c _ G t _ (RG.out _ D2.out) (by omega)).mono ?_
    rintro e w3 ⟨u2, N2, rfl, o3, hy2, hn2, hb3⟩
    have hNN : N2 = N := by
      by_cases hok : OkS G t
      · rw [hy1 hok, hy2 hok]
      · rw [hn1 hok, hn2 hok]
    subst hNN
    have D3 := Lib.hid (D2.out.trans (hb3.mono D2.out.size))
    have RN := Lib.hid (fun W (hW : Below w3.heap.size w3 W) => (Rd.of_own (own_below (own_below O2.out hb3) hW)))
    have RM := Lib.hid (fun W (hW : Below w3.heap.size w3 W) => (Rd.of_own (own_below o3 hW)))
    have HY := Lib.hid (show N2.length ≠ 0 → OkS G t ∧ N2 = srv G t from fun h => by
      by_cases hok : OkS G t
      · exact ⟨hok, hy1 hok⟩
      · rw [hn1 hok] at h; exact absurd rfl h)
    obtain ⟨a1, c1, rfl⟩ := own_slice O2.out
    obtain ⟨a2, c2, rfl⟩ := own_slice o3
    clear o3 hb3 hy1 hn1 hy2 hn2 O2 D2
    have SI := Lib.hid (fun W (hW : Below w3.heap.size w3 W) => sameInts_c (.slice a1 N2.length c1) (.slice a2 N2.length c2) (castL N2) W (by rw [castL_len]; exact RN.out W hW) (by rw [castL_len]; exact RM.out W hW))
    have HN := Lib.hid (show N2.length = N2.length from rfl)
    go_wp2_with fail
    refine (SI.out _ (Below.refl _ _)).mono ?_
    rintro e w4 ⟨rfl, hb4⟩
    have D4 := Lib.hid hb4
    clear hb4
    by_cases h3 : G.length ≤ 3
    · have h3i : (G.length : Int) ≤ 3 := by omega
      clear HY
      go_wp2_with fail
      refine (SI.out _ D4.out).mono ?_
      rintro e w5 ⟨rfl, hb5⟩
      have HBZ := Lib.hid (HB1.out.trans ((D3.out.trans ((D4.out.trans (hb5.mono D4.out.size)).mono D3.out.size)).mono HB1.out.size))
      clear hb5
      go_wp2
      go_ret
      exact ⟨rfl, HBZ.out⟩
    · have h3i : ¬ (G.length : Int) ≤ 3 := by omega
      by_cases h0 : N2.length = 0
      · have h0i : ((N2.length : Int) == 0) = true := by simp [h0]
        clear h0 HY
        go_wp2_with fail
        refine (SI.out _ D4.out).mono ?_
        rintro e w5 ⟨rfl, hb5⟩
        have HBZ := Lib.hid (HB1.out.trans ((D3.out.trans ((D4.out.trans (hb5.mono D4.out.size)).mono D3.out.size)).mono HB1.out.size))
        clear hb5
        go_wp2
        go_ret
        exact ⟨rfl, HBZ.out⟩
      · have h0i : ((N2.length : Int) == 0) = false := by rw [beq_eq_false_iff_ne]; omega
        obtain ⟨hok, hsrv⟩ := HY.out h0
        have HS := Lib.hid hsrv
        have HOK := Lib.hid hok
        have hN7 : N2.length ≤ 7 := by have := srv_len G t; rw [hsrv]; omega
        have TC := Lib.hid (chokeTurn_c (.slice ag G.length cg) G t w4 (RG.out _ (D3.out.trans (D4.out.mono D3.out.size))) (by omega))
        have HT := Lib.hid (tn_mem (t := t) (rst_pos (G := G) (by omega)))
        clear hok hsrv HY SI h0 HN h3
        go_wp2_with fail
        refine (TC.out).mono ?_
        rintro e w5 ⟨tz, rfl, htz, -, hb5⟩
        have HTZ := Lib.hid (htz HOK.out)
        have D5 := Lib.hid (D4.out.trans (hb5.mono D4.out.size))
        clear htz hb5 TC
        go_wp2
        go_loopw [8, 9] (fun i _ wr => ∃ ii : Nat, ii ≤ G.length ∧ i = .int .i64 ii ∧ Hid (Below w5.heap.size w5 wr)) (fun i _ _ => G.length - (intOf i).toNat)
        case atStart => exact ⟨0, Nat.zero_le _, rfl, Lib.hid (Below.refl _ _)⟩
        case round =>
          obtain ⟨ii, hii, rfl, HB⟩ := hrel
          by_cases hlt : ii < G.length
          · go_wp2
            go_loopw [9] (fun k wr => ∃ (kk : Nat), kk ≤ N2.length ∧ k = .int .i64 kk ∧ Hid (Below w5.heap.size w5 wr)) (fun k _ => N2.length - (intOf k).toNat)
            case atStart => exact ⟨0, Nat.zero_le _, rfl, HB⟩
            case round =>
              obtain ⟨kk, hkk, rfl, HI⟩ := hrel
              by_cases hltk : kk < N2.length
              · have HW := Lib.hid (show Below w3.heap.size w3 wr from D5.out.trans (HI.out.mono D5.out.size))
                have HH := Lib.hid (fun W (hW : Below wr.heap.size wr W) => (show Calls Try.prog 28 #[.slice a1 N2.length c1, .int .i64 ii] W (fun e w' => e = .returned (.bool (decide (ii ∈ N2))) ∧ W = w') from by
                  have := hasIntS_c (.slice a1 N2.length c1) (castL N2) ii W (by rw [castL_len]; exact RN.out W (HW.out.trans (hW.mono HW.out.size)))
                  rw [inL_cast] at this
                  exact this))
                by_cases hin : ii ∈ N2
                · rw [decide_eq_true hin] at HH
                  clear hin
                  go_wp2
                  refine wp_region_sub (by kernel_rfl) (by kernel_rfl) ?_
                  repeat (go_big_quiet_step (with_reducible (exact Calls.sub_same (v := .bool true) HH.out)))
                  refine wpQuiet_nil ?_
                  rintro _ ⟨xs, rfl⟩
                  have HI2 := Lib.hid (HI.out.trans (xs.b.mono HI.out.size))
                  clear HI HH HW
                  go_wp2
                  go_roundw
                  case rel => exact ⟨kk + 1, by omega, by go_num, HI2⟩
                  case measure => simp [intOf]; omega
                · rw [decide_eq_false hin] at HH
                  obtain ⟨-, a', c', e, -, -, hc⟩ := RN.out _ HW.out
                  obtain ⟨b, off, rfl, hcb⟩ := hc (by omega)
                  injection e with e _ e2
                  subst e e2
                  have q1 := hcb kk _ (enc1_at (castL N2) kk 0 (by rw [castL_len]; exact hltk))
                  rw [castL_at N2 kk hltk] at q1
                  obtain ⟨m, hm⟩ : ∃ m : Nat, N2.getD kk 0 = m := ⟨_, rfl⟩
                  rw [hm] at q1
                  have hmN : m ∈ N2 := by rw [← hm, List.getD_eq_getElem?_getD, List.getElem?_eq_getElem hltk]; exact List.getElem_mem hltk
                  have hltki : (kk : Int) < (N2.length : Int) := by omega
                  have hlti : (ii : Int) < (G.length : Int) := by omega
                  have hmS : m ∈ srv G t := by rw [← HS.out]; exact hmN
                  have hmG : m < G.length := (mem_srv.1 hmS).1
                  have hmGi : (m : Int) < (G.length : Int) := by omega
                  have HNO := Lib.hid (show (m : Int) ≠ tz → ¬ G.getD m 0 < G.getD ii 0 from fun hne => law_turn hlt (by rw [← HS.out]; exact hin) hmS (by rw [← HTZ.out]; exact hne))
                  clear hc hcb hm hmN hmS hin
                  by_cases hmt : (m : Int) = tz
                  · have hmb : ((m : Int) != tz) = false := by simp [hmt]
                    have z1 := fun (xx : Sub wr) => xx.cell q1
                    clear hmt
                    go_wp2
                    refine wp_region_sub (by kernel_rfl) (by kernel_rfl) ?_
                    repeat (go_big_quiet_step (with_reducible (exact Calls.sub_same (v := .bool false) HH.out)))
                    refine wpQuiet_nil ?_
                    rintro _ ⟨xs, rfl⟩
                    have HI2 := Lib.hid (HI.out.trans (xs.b.mono HI.out.size))
                    clear HI HH HW z1
                    go_wp2
                    go_roundw
                    case rel => exact ⟨kk + 1, by omega, by go_num, HI2⟩
                    case measure => simp [intOf]; omega
                  · have hmb : ((m : Int) != tz) = true := by rw [bne_iff_ne]; exact hmt
                    have hrg := (RG.out _ (D3.out.trans (HW.out.mono D3.out.size))).rd
                    obtain ⟨-, a'', c'', e, -, -, hc⟩ := hrg
                    obtain ⟨b2, off2, rfl, hcb⟩ := hc (by omega)
                    injection e with e _ e2
                    subst e e2
                    have q2 := hcb m _ (enc1_at G m 0 hmG)
                    have q3 := hcb ii _ (enc1_at G ii 0 hlt)
                    have hno := HNO.out hmt
                    obtain ⟨x, hx⟩ : ∃ x, G.getD m 0 = x := ⟨_, rfl⟩
                    obtain ⟨y, hy⟩ : ∃ y, G.getD ii 0 = y := ⟨_, rfl⟩
                    rw [hx] at q2 hno
                    rw [hy] at q3 hno
                    have z1 := fun (xx : Sub wr) => xx.cell q1
                    have z2 := fun (xx : Sub wr) => xx.cell q2
                    have z3 := fun (xx : Sub wr) => xx.cell q3
                    clear hc hcb hx hy hmt HNO
                    go_wp2
                    refine wp_region_sub (by kernel_rfl) (by kernel_rfl) ?_
                    repeat (go_big_quiet_step (with_reducible (exact Calls.sub_same (v := .bool false) HH.out)))
                    refine wpQuiet_nil ?_
                    rintro _ ⟨xs, rfl⟩
                    have HI2 := Lib.hid (HI.out.trans (xs.b.mono HI.out.size))
                    clear HI HH HW z1 z2 z3
                    go_wp2
                    go_roundw
                    case rel => exact ⟨kk + 1, by omega, by go_num, HI2⟩
                    case measure => simp [intOf]; omega
              · have HI2 := Lib.hid HI.out
                clear HI
                go_wp2
                go_roundw
                case rel => exact ⟨ii + 1, by omega, by go_num, HI2⟩
                case measure => simp [intOf]; omega
          · have HW := Lib.hid (show Below w3.heap.size w3 wr from D5.out.trans (HB.out.mono D5.out.size))
            have HH := Lib.hid (show Calls Try.prog 28 #[.slice a1 N2.length c1, .int .i64 tz] wr (fun e w' => e = .returned (.bool true) ∧ wr = w') from by
              have := hasIntS_c (.slice a1 N2.length c1) (castL N2) tz wr (by rw [castL_len]; exact RN.out _ HW.out)
              obtain ⟨k, hk, hkt⟩ := HT.out
              rw [HTZ.out, hkt, inL_cast, decide_eq_true (by rw [HS.out]; exact mem_srv.2 ⟨(mem_rst.1 hk).1, .inr hkt.symm⟩)] at this
              rw [HTZ.out, hkt]
              exact this)
            have HBZ := Lib.hid (HB1.out.trans ((D3.out.trans (HW.out.mono D3.out.size)).mono HB1.out.size))
            go_wp2_with fail
            refine (HH.out).mono ?_
            rintro e w' ⟨rfl, rfl⟩
            go_wp2
            go_ret
            exact ⟨rfl, HBZ.out⟩
end Go.Proofs.Ytbjndbaljenlgaa
