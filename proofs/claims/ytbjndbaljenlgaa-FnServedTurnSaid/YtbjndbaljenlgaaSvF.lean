/- The walk of the law FnServedBest. -/
import Derived.Test.YtbjndbaljenlgaaSvE
import Derived.Test.YtbjndbaljenlgaaEq
namespace Go.Proofs.Ytbjndbaljenlgaa
open Go.RowKit
set_option linter.unusedSimpArgs false
theorem hasIntS_c (v : Value) (L : List Int) (x : Int) (w : World) (h : Rd 1 w v L.length (enc1 L)) : Calls Try.prog 28 #[v, .int .i64 x] w fun e w' => e = .returned (.bool (inL L x)) ∧ w = w' := by
  obtain ⟨-, a, c, rfl, h1, h2, h3⟩ := h
  unfold maxLen at h2
  have HC := Lib.hid h3
  obtain ⟨r, hr⟩ : ∃ r, inL L x = r := ⟨_, rfl⟩
  rw [hr]
  have HE := Lib.hid hr
  clear hr h3
  go_enter Try.func28, Try.ntmps28
  go_wp2
  go_loopw [5] (fun i wr => ∃ k : Nat, k ≤ L.length ∧ i = .int .i64 k ∧ w = wr ∧ Hid (∀ j, j < k → L.getD j 0 ≠ x)) (fun i _ => L.length - (intOf i).toNat)
  case atStart => exact ⟨0, Nat.zero_le _, rfl, rfl, fun j hj => absurd hj (Nat.not_lt_zero _)⟩
  case round =>
    obtain ⟨k, hk, rfl, rfl, HK⟩ := hrel
    by_cases hlt : k < L.length
    · obtain ⟨b, off, rfl, hc⟩ := HC.out (by omega)
      have q := hc k _ (enc1_at L k 0 hlt)
      obtain ⟨y, hy⟩ : ∃ y, L.getD k 0 = y := ⟨_, rfl⟩
      rw [hy] at q
      have HY := Lib.hid hy
      clear hc HC hy
      by_cases hxy : y = x
      · subst hxy
        have : r = true := by rw [← HE.out, ← HY.out]; exact inL_at hlt
        subst this
        go_wp2
        go_ret
        exact ⟨rfl, rfl⟩
      · have hxb : (y == x) = false := by rw [beq_eq_false_iff_ne]; exact hxy
        have HK2 : Hid (∀ j, j < k + 1 → L.getD j 0 ≠ x) := Lib.hid fun j hj => by
          by_cases e : j = k
          · subst e; rw [HY.out]; exact hxy
          · exact HK.out j (by omega)
        go_wp2
        go_roundw
        case rel => exact ⟨k + 1, by omega, by go_num, by trivial, HK2⟩
        case measure => simp [intOf]; omega
    · have : r = false := by rw [← HE.out]; exact inL_no fun j hj => HK.out j (by omega)
      subst this
      clear HC
      go_wp2
      go_ret
      exact ⟨rfl, rfl⟩
set_option maxRecDepth 100000 in
set_option maxHeartbeats 3200000 in
theorem lawFnServedBest_c (w : World) (v : Value) (n : Nat) (h : RdB w v n) : Calls Try.prog 5 #[v] w fun e w' => e = .returned (.bool true) ∧ Below w.heap.size w w' := by
  have H := Lib.hid h
  obtain ⟨a, cap, rfl, h1, h2, h3⟩ := h
  unfold maxLen at h2
  clear h3
  by_cases hl : (n : Int) > 1048576
  · go_enter Try.func5, Try.ntmps5
    go_wp2
    go_ret
    exact ⟨rfl, Below.refl _ _⟩
  · go_enter Try.func5, Try.ntmps5
    go_wp2_with fail
    refine (drawServed_c _ n _ H.out).mono ?_
    rintro e w1 ⟨u, G, t, rfl, og, hG7, ht0, ht1, hb1⟩
    have RG := Lib.hid (fun W (hW : Below w1.heap.size w1 W) => (RdS.of_own og).below hW)
    obtain ⟨ag, cg, rfl⟩ := own_slice og
    obtain ⟨hgc1, hgc2⟩ : G.length ≤ cg ∧ cg ≤ maxLen := by
      obtain ⟨a', c', e, h1, h2⟩ := (RdS.of_own og).shape
      simp only [Value.slice.injEq, true_and] at e
      obtain ⟨rfl, rfl⟩ := e
      exact ⟨h1, h2⟩
    unfold maxLen at hgc2
    have HB1 := Lib.hid hb1
    clear og hb1 H
    go_wp2_with fail
    refine (chokeServed_c _ G t _ (RG.out _ (Below.refl _ _)) (by omega)).mono ?_
    rintro e w2 ⟨u1, N, rfl, o2, hy1, hn1, hb2⟩
    have D2 := Lib.hid hb2
    have O2 := Lib.hid o2
    clear o2 hb2
    go_wp2_with fail
    refine (specServed_c _ G t _ (RG.out _ D2.out) (by omega)).mono ?_
    rintro e w3 ⟨u2, N2, rfl, o3, hy2, hn2, hb3⟩
    have hNN : N2 = N := by
      by_cases hok : OkS G t
      · rw [hy1 hok, hy2 hok]
      · rw [hn1 hok, hn2 hok]
    subst hNN
    have D3 := Lib.hid (D2.out.trans (hb3.mono D2.out.size))
    have RN := Lib.hid (fun W (hW : Below w3.heap.size w3 W) => (Rd.of_own (own_below (own_below O2.out hb3) hW)))
    have RM := Lib.hid (fun W (hW : Below w3.heap.size w3 W) => (Rd.of_own (own_below o3 hW)))
    have HY := Lib.hid (show N2.length ≠ 0 → OkS G t ∧ N2 = srv G t from fun h => by
      by_cases hok : OkS G t
      · exact ⟨hok, hy1 hok⟩
      · rw [hn1 hok] at h; exact absurd rfl h)
    obtain ⟨a1, c1, rfl⟩ := own_slice O2.out
    obtain ⟨a2, c2, rfl⟩ := own_slice o3
    clear o3 hb3 hy1 hn1 hy2 hn2 O2 D2
    have SI := Lib.hid (fun W (hW : Below w3.heap.size w3 W) => sameInts_c (.slice a1 N2.length c1) (.slice a2 N2.length c2) (castL N2) W (by rw [castL_len]; exact RN.out W hW) (by rw [castL_len]; exact RM.out W hW))
    have HN := Lib.hid (show N2.length = N2.length from rfl)
    go_wp2_with fail
    refine (SI.out _ (Below.refl _ _)).mono ?_
    rintro e w4 ⟨rfl, hb4⟩
    have D4 := Lib.hid hb4
    clear hb4
    by_cases h0 : N2.length = 0
    · have h0i : ((N2.length : Int) == 0) = true := by simp [h0]
      clear h0 HY
      go_wp2_with fail
      refine (SI.out _ D4.out).mono ?_
      rintro e w5 ⟨rfl, hb5⟩
      have HBZ := Lib.hid (HB1.out.trans ((D3.out.trans ((D4.out.trans (hb5.mono D4.out.size)).mono D3.out.size)).mono HB1.out.size))
      clear hb5
      go_wp2
      go_ret
      exact ⟨rfl, HBZ.out⟩
    · have h0i : ((N2.length : Int) == 0) = false := by rw [beq_eq_false_iff_ne]; omega
      obtain ⟨hok, hsrv⟩ := HY.out h0
      have HS := Lib.hid hsrv
      have W4 := Lib.hid (D3.out.trans (D4.out.mono D3.out.size))
      clear hok hsrv HY SI h0 HN
      go_wp2
      go_loopw [7, 8, 9] (fun i _ _ wr => ∃ ii : Nat, ii ≤ G.length ∧ i = .int .i64 ii ∧ Hid (Below w4.heap.size w4 wr)) (fun i _ _ _ => G.length - (intOf i).toNat)
      case atStart => exact ⟨0, Nat.zero_le _, rfl, Lib.hid (Below.refl _ _)⟩
      case round =>
        obtain ⟨ii, hii, rfl, HB⟩ := hrel
        by_cases hlt : ii < G.length
        · go_wp2
          go_loopw [8, 9] (fun c k wr => ∃ (kk m : Nat), kk ≤ G.length ∧ m ≤ kk ∧ k = .int .i64 kk ∧ c = .int .i64 m ∧ Hid (m = (List.range kk).countP (fun k => decide (k ≠ ii ∧ G.getD ii 0 ≤ G.getD k 0)) ∧ Below w4.heap.size w4 wr)) (fun _ k _ => G.length - (intOf k).toNat)
          case atStart => exact ⟨0, 0, Nat.zero_le _, Nat.le_refl _, rfl, rfl, Lib.hid ⟨rfl, HB.out⟩⟩
          case round =>
            obtain ⟨kk, m, hkk, hm, rfl, rfl, HI⟩ := hrel
            by_cases hltk : kk < G.length
            · have hrg := (RG.out _ (D3.out.trans ((D4.out.trans (HI.out.2.mono D4.out.size)).mono D3.out.size))).rd
              obtain ⟨-, a', c', e, -, -, hc⟩ := hrg
              obtain ⟨b, off, rfl, hcb⟩ := hc (by omega)
              injection e with e _ e2
              subst e e2
              have q1 := hcb kk _ (enc1_at G kk 0 hltk)
              have q2 := hcb ii _ (enc1_at G ii 0 hlt)
              obtain ⟨x, hx⟩ : ∃ x, G.getD kk 0 = x := ⟨_, rfl⟩
              obtain ⟨y, hy⟩ : ∃ y, G.getD ii 0 = y := ⟨_, rfl⟩
              rw [hx] at q1
              rw [hy] at q2
              have hltki : (kk : Int) < (G.length : Int) := by omega
              have hlti : (ii : Int) < (G.length : Int) := by omega
              have HC := Lib.hid (show (List.range (kk + 1)).countP (fun k => decide (k ≠ ii ∧ G.getD ii 0 ≤ G.getD k 0)) = m + (if kk ≠ ii ∧ y ≤ x then 1 else 0) by
                rw [List.range_succ, List.countP_append, ← HI.out.1, ← hx, ← hy]
                simp)
              clear hc hcb hx hy
              by_cases hki : kk = ii
              · have hkib : ((kk : Int) == (ii : Int)) = false ∨ True := .inr trivial
                subst hki
                have hne : ((kk : Int) != (kk : Int)) = false := by simp
                have HC2 := Lib.hid (HC.out.trans (show m + (if kk ≠ kk ∧ y ≤ x then 1 else 0) = m by simp))
                clear HC hkib
                have z1 := fun (xx : Sub wr) => xx.cell q1
                go_wp2
                refine wp_region_sub (by kernel_rfl) (by kernel_rfl) ?_
                repeat (go_big_quiet_step (fail))
                refine wpQuiet_nil ?_
                rintro _ ⟨xs, rfl⟩
                have HI2 := Lib.hid (And.intro HC2.out.symm (HI.out.2.trans (xs.b.mono HI.out.2.size)))
                clear z1 HI HC2
                go_wp2
                go_roundw
                case rel => exact ⟨kk + 1, m, by omega, by omega, by go_num, rfl, HI2⟩
                case measure => simp [intOf]; omega
              · have hne : ((kk : Int) != (ii : Int)) = true := by rw [bne_iff_ne]; omega
                by_cases hyx : y ≤ x
                · have HC2 := Lib.hid (HC.out.trans (show m + (if kk ≠ ii ∧ y ≤ x then 1 else 0) = m + 1 by simp [hki, hyx]))
                  clear HC
                  have z1 := fun (xx : Sub wr) => xx.cell q1
                  have z2 := fun (xx : Sub wr) => xx.cell q2
                  go_wp2
                  refine wp_region_sub (by kernel_rfl) (by kernel_rfl) ?_
                  repeat (go_big_quiet_step (fail))
                  refine wpQuiet_nil ?_
                  rintro _ ⟨xs, rfl⟩
                  have HI2 := Lib.hid (And.intro HC2.out.symm (HI.out.2.trans (xs.b.mono HI.out.2.size)))
                  clear z1 z2 HI HC2
                  go_wp2
                  go_roundw
                  case rel => exact ⟨kk + 1, m + 1, by omega, by omega, by go_num, by go_num, HI2⟩
                  case measure => simp [intOf]; omega
                · have HC2 := Lib.hid (HC.out.trans (show m + (if kk ≠ ii ∧ y ≤ x then 1 else 0) = m by simp [hyx]))
                  clear HC
                  have z1 := fun (xx : Sub wr) => xx.cell q1
                  have z2 := fun (xx : Sub wr) => xx.cell q2
                  go_wp2
                  refine wp_region_sub (by kernel_rfl) (by kernel_rfl) ?_
                  repeat (go_big_quiet_step (fail))
                  refine wpQuiet_nil ?_
                  rintro _ ⟨xs, rfl⟩
                  have HI2 := Lib.hid (And.intro HC2.out.symm (HI.out.2.trans (xs.b.mono HI.out.2.size)))
                  clear z1 z2 HI HC2
                  go_wp2
                  go_roundw
                  case rel => exact ⟨kk + 1, m, by omega, by omega, by go_num, rfl, HI2⟩
                  case measure => simp [intOf]; omega
            · obtain rfl : kk = G.length := by omega
              by_cases hm3 : m < 3
              · have hin : ii ∈ N2 := by rw [HS.out]; exact law_best hlt m HI.out.1 hm3
                have HH := Lib.hid (fun W (hW : Below w3.heap.size w3 W) => (show Calls _ _ _ _ (fun e w' => e = .returned (.bool true) ∧ W = w') from by
                  have := hasIntS_c (.slice a1 N2.length c1) (castL N2) ii W (by rw [castL_len]; exact RN.out W hW)
                  rw [inL_cast, decide_eq_true hin] at this
                  exact this))
                clear hin
                go_wp2_with fail
                refine (HH.out _ (D4.out.trans (HI.out.2.mono D4.out.size))).mono ?_
                rintro e w' ⟨rfl, rfl⟩
                have HI2 := Lib.hid HI.out.2
                clear HI
                go_wp2
                go_roundw
                case rel => exact ⟨ii + 1, by omega, by go_num, HI2⟩
                case measure => simp [intOf]; omega
              · have HI2 := Lib.hid HI.out.2
                clear HI
                go_wp2
                go_roundw
                case rel => exact ⟨ii + 1, by omega, by go_num, HI2⟩
                case measure => simp [intOf]; omega
        · have HBZ := Lib.hid (HB1.out.trans ((D3.out.trans ((D4.out.trans (HB.out.mono D4.out.size)).mono D3.out.size)).mono HB1.out.size))
          go_wp2
          go_ret
          exact ⟨rfl, HBZ.out⟩
end Go.Proofs.Ytbjndbaljenlgaa
