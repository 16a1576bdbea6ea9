/- The walk of the law FnSample. -/
import Derived.Test.YtgicdfpcegaooaaLSamp2
namespace Go.Proofs.Ytgicdfpcegaooaa
open Go.RowKit
theorem getD_take {zs : List Int} {k j : Nat} (h : j < k) : (zs.take k).getD j 0 = zs.getD j 0 := by
  rw [List.getD_eq_getElem?_getD, List.getD_eq_getElem?_getD, List.getElem?_take, if_pos h]
set_option maxHeartbeats 1600000 in
theorem lawFnSample_c (w : World) (v : Value) (n : Nat) (h : RdB w v n) : Calls Try.prog 13 #[v] w fun e w' => e = .returned (.bool true) ∧ Below w.heap.size w w' := by
  have hB := h
  obtain ⟨a, cap, rfl, h1, h2, -⟩ := h
  unfold maxLen at h2
  by_cases hn : 1048576 < n
  · go_enter Try.func13, Try.ntmps13
    go_wp2
    go_ret
    exact ⟨rfl, Below.refl _ _⟩
  · go_enter Try.func13, Try.ntmps13
    go_wp2_with fail
    refine (drawSample_c _ n _ hB).mono ?_
    rintro e w1 ⟨v, ps, seed, many, rfl, hl, hv, hsl, T1, s1, s2, m1, m2⟩
    clear hB
    have HV := Lib.hid hv
    have HSL := Lib.hid hsl
    obtain ⟨R, hR⟩ : ∃ R, samp ps seed many = R := ⟨_, rfl⟩
    have HR := Lib.hid hR
    have hRn : R.length ≤ 14 := by rw [← hR]; have := samp_le ps seed many; omega
    clear hv hsl hR
    go_wp2_with fail
    refine (dirSample_c _ ps seed many _ HV.out).mono ?_
    rintro e w2 ⟨vo, rfl, ho, hb2⟩
    rw [HR.out] at ho
    have HV2 := Lib.hid (HV.out.below hb2)
    have T2 := T1.trans (hb2.mono T1.size)
    clear HV hb2 T1
    go_wp2_with fail
    refine (specDirSample_c _ ps seed many _ HV2.out).mono ?_
    rintro e w3 ⟨vw, rfl, hw, hb3⟩
    rw [HR.out] at hw
    have HV3 := Lib.hid (HV2.out.below hb3)
    have T3 := T2.trans (hb3.mono T2.size)
    have ho3 := own_below ho hb3
    clear HV2 hb3 T2 ho
    go_wp2_with fail
    refine (sameInts_c _ _ R _ (Rd.of_own ho3) (Rd.of_own hw)).mono ?_
    rintro e w4 ⟨rfl, hb4⟩
    have HV4 := Lib.hid (HV3.out.below hb4)
    have T4 := T3.trans (hb4.mono T3.size)
    have ho4 := own_below ho3 hb4
    have hw4 := own_below hw hb4
    clear HV3 hb4 T3 ho3 hw
    obtain ⟨ao, co, rfl⟩ := own_slice ho4
    have HO4 := Lib.hid ho4
    have HW4 := Lib.hid hw4
    clear ho4 hw4
    go_wp2_with fail
    refine (specDirValid_c _ ps _ HV4.out).mono ?_
    rintro e w5 ⟨rfl, hb5⟩
    have HV5 := Lib.hid (HV4.out.below hb5)
    have T5 := T4.trans (hb5.mono T4.size)
    have HO5 := Lib.hid (own_below HO4.out hb5)
    have HW5 := Lib.hid (own_below HW4.out hb5)
    clear HV4 hb5 T4 HO4 HW4
    by_cases hdv : DV ps
    · by_cases hs0 : seed < 0
      · have HD := Lib.hid (dvB_true hdv)
        clear hdv
        rw [HD.out]
        go_wp2_with fail
        refine (sameInts_c _ _ R _ (Rd.of_own HO5.out) (Rd.of_own HW5.out)).mono ?_
        rintro e w6 ⟨rfl, hb6⟩
        have T6 := T5.trans (hb6.mono T5.size)
        go_wp2
        go_ret
        exact ⟨rfl, T6⟩
      · have hs1 : 0 ≤ seed := by omega
        have hRe : R = sampL ps seed (sampN ps many) := by rw [← HR.out, samp_yes many hdv hs1]
        have hRl : R.length = sampN ps many := by rw [hRe, sampL_len]
        have HRN : Hid ((R.length : Int) = min (max many 0) (ps.length : Int)) := by show (R.length : Int) = _; rw [hRl]; unfold sampN; omega
        have hRp : R.length ≤ ps.length := by have e := HRN.out; omega
        have HD := Lib.hid (And.intro (dvB_true hdv) (And.intro hdv (And.intro hRe hRl)))
        have h8 := hdv.1
        have hco : R.length ≤ co := by
          obtain ⟨-, a2, c2, e2, h1, -⟩ := Rd.of_own HO5.out
          simp only [Value.slice.injEq, true_and] at e2
          omega
        obtain ⟨-, av, cv, rfl, hv1, hv2, -⟩ := id HV5.out
        unfold maxLen at hv2
        clear hdv hRe hRl
        rw [HD.out.1]
        go_wp2
        go_loopw [8] (fun i wr => ∃ k : Nat, k ≤ R.length ∧ i = .int .i64 k ∧ Below w5.heap.size w5 wr) (fun i _ => R.length - (intOf i).toNat)
        case atStart => exact ⟨0, Nat.zero_le _, rfl, Below.refl _ _⟩
        case round =>
          obtain ⟨k, hk, rfl, hbr⟩ := hrel
          by_cases hlt : k < R.length
          · have HOr := Lib.hid (own_below HO5.out hbr)
            have HVr := Lib.hid (HV5.out.below hbr)
            obtain ⟨-, a6, c6, e6, -, -, k6⟩ := Rd.of_own HOr.out
            simp only [Value.slice.injEq, true_and] at e6
            obtain ⟨rfl, rfl⟩ := e6
            obtain ⟨b1, o1, rfl, g1⟩ := k6 (by omega)
            obtain ⟨x, e1, u1⟩ := at1 (Below.refl _ _) g1 k hlt
            have hL : 0 < ps.length := by omega
            have hRx : ∀ j, j < R.length → R.getD j 0 = (ps.getD (plc ps.length seed j) (0, 0)).1 := by
              intro j hj
              rw [HD.out.2.2.1, sampL_at ps seed _ j (by rw [← HD.out.2.2.2]; exact hj), sampAt_plc]
            have hxe : (ps.getD (plc ps.length seed k) (0, 0)).1 = x := by rw [← hRx k hlt]; exact e1
            obtain ⟨t, ht⟩ : ∃ t, tm x ps = t := ⟨_, rfl⟩
            have htn : 0 ≤ t := by
              rw [← ht, tm_at (plc ps.length seed k) (plc_lt _ _ _ hL) hxe (fun j hj => by
                have := dv_lt HD.out.2.1 j _ hj (plc_lt _ seed k hL); omega)]
              exact (HD.out.2.1.times _ (plc_lt _ seed k hL)).1
            have HC : Hid (hasB (R.take k) x = false ∧ tm x ps = t ∧ (R.take k).length = k) := by
              refine ⟨?_, ht, List.length_take_of_le hk⟩
              show (R.take k).contains x = false
              rw [Bool.eq_false_iff]
              intro hc
              rw [List.contains_iff_mem] at hc
              obtain ⟨j, hj, hje⟩ := List.getElem_of_mem hc
              have hjk : j < k := by rw [List.length_take] at hj; omega
              have e3 : R.getD j 0 = x := by rw [← getD_take hjk, List.getD_eq_getElem?_getD, List.getElem?_eq_getElem hj]; exact hje
              rw [hRx j (by omega)] at e3
              have hne : plc ps.length seed j ≠ plc ps.length seed k := fun h => by have := plc_inj _ _ _ _ (by omega) (by omega) h; omega
              rcases Nat.lt_or_gt_of_ne hne with hl' | hg'
              · have := dv_lt HD.out.2.1 _ _ hl' (plc_lt _ seed k hL); omega
              · have := dv_lt HD.out.2.1 _ _ hg' (plc_lt _ seed j hL); omega
            have htf : decide (t < 0) = false := by simpa using htn
            have hkc : k ≤ co := by omega
            clear e1 k6 g1 hRx hxe ht
            go_wp2
            go_quiet ((first | (go_at_call 45; exact Calls.quiet_of_same ((timeOf_c _ ps x _ (rd_drewN HVr.out _)).mono fun _ _ ⟨a, b⟩ => ⟨by rw [a, HC.out.2.1], b.symm⟩)) | (go_at_call 44; exact Calls.quiet_of_same ((hasInt_c _ (R.take k) x _ (rd_drewN (by have e := own_take1 HOr.out hk; rw [HC.out.2.2] at e ⊢; exact e) _)).mono fun _ _ ⟨a, b⟩ => ⟨by rw [a, HC.out.1], b.symm⟩))))
            go_wp2
            go_roundw
            case rel => exact ⟨k + 1, by omega, by go_num, below_drewN hbr _⟩
            case measure => simp [intOf]; omega
          · obtain rfl : k = R.length := by omega
            have T6 := T5.trans (hbr.mono T5.size)
            go_wp2
            all_goals
              go_ret
              exact ⟨ret_bool (by have e := HRN.out; rw [beq_iff_eq]; omega), T6⟩
    · have HD := Lib.hid (dvB_false hdv)
      clear hdv
      rw [HD.out]
      go_wp2_with fail
      refine (sameInts_c _ _ R _ (Rd.of_own HO5.out) (Rd.of_own HW5.out)).mono ?_
      rintro e w6 ⟨rfl, hb6⟩
      have T6 := T5.trans (hb6.mono T5.size)
      go_wp2
      go_ret
      exact ⟨rfl, T6⟩
end Go.Proofs.Ytgicdfpcegaooaa
