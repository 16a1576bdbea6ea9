/- The walk of the law FnSampleAll. -/
import Derived.Test.YtgicdfpcegaooaaLSamp2
namespace Go.Proofs.Ytgicdfpcegaooaa
open Go.RowKit
theorem sampAt_next (ps : List P2) (seed : Int) (k : Nat) : sampAt ps (seed + (k : Int)) 0 = sampAt ps seed k := by
  unfold sampAt
  congr 3
  simp
theorem count_skip {k0 k : Nat} (h : k ≠ k0) : (if k0 < k + 1 then (1 : Int) else 0) = if k0 < k then 1 else 0 := by
  by_cases h1 : k0 < k
  · rw [if_pos h1, if_pos (by omega)]
  · rw [if_neg h1, if_neg (by omega)]
theorem own_one {w : World} {base e : Nat} {v : Value} {z : Int} (h : w.ownsRow base e 1 v 1 (enc1 [z])) : ∃ g cap, v = .slice (some ⟨g, 0, none⟩) 1 cap ∧ w.cell? ⟨g, 0, none⟩ = some (.int .i64 z) := by
  rcases own_cases h with ⟨rfl, h0, -⟩ | ⟨g, cap, rfl, -⟩
  · cases h0
  · exact ⟨g, cap, rfl, (h.cellAt 0 (by omega)).trans rfl⟩
set_option maxHeartbeats 6400000 in
theorem lawFnSampleAll_c (w : World) (v : Value) (n : Nat) (h : RdB w v n) : Calls Try.prog 8 #[v] w fun e w' => e = .returned (.bool true) ∧ Below w.heap.size w w' := by
  have hB := h
  obtain ⟨a, cap, rfl, h1, h2, -⟩ := h
  unfold maxLen at h2
  by_cases hn : 1048576 < n
  · go_enter Try.func8, Try.ntmps8
    go_wp2
    go_ret
    exact ⟨rfl, Below.refl _ _⟩
  · go_enter Try.func8, Try.ntmps8
    go_wp2_with fail
    refine (drawSample_c _ n _ hB).mono ?_
    rintro e w1 ⟨v, ps, seed, many, rfl, hl, hv, hsl, T1, s1, s2, m1, m2⟩
    clear hB
    have HV := Lib.hid hv
    have HSL := Lib.hid hsl
    obtain ⟨R, hR⟩ : ∃ R, samp ps seed many = R := ⟨_, rfl⟩
    have HR := Lib.hid hR
    have hRn : R.length ≤ 14 := by rw [← hR]; have := samp_le ps seed many; omega
    clear hv hsl hR
    go_wp2_with fail
    refine (dirSample_c _ ps seed many _ HV.out).mono ?_
    rintro e w2 ⟨vo, rfl, ho, hb2⟩
    rw [HR.out] at ho
    have HV2 := Lib.hid (HV.out.below hb2)
    have T2 := T1.trans (hb2.mono T1.size)
    clear HV hb2 T1
    go_wp2_with fail
    refine (specDirSample_c _ ps seed many _ HV2.out).mono ?_
    rintro e w3 ⟨vw, rfl, hw, hb3⟩
    rw [HR.out] at hw
    have HV3 := Lib.hid (HV2.out.below hb3)
    have T3 := T2.trans (hb3.mono T2.size)
    have ho3 := own_below ho hb3
    clear HV2 hb3 T2 ho
    go_wp2_with fail
    refine (sameInts_c _ _ R _ (Rd.of_own ho3) (Rd.of_own hw)).mono ?_
    rintro e w4 ⟨rfl, hb4⟩
    have HV4 := Lib.hid (HV3.out.below hb4)
    have T4 := T3.trans (hb4.mono T3.size)
    have ho4 := own_below ho3 hb4
    have hw4 := own_below hw hb4
    clear HV3 hb4 T3 ho3 hw
    obtain ⟨ao, co, rfl⟩ := own_slice ho4
    have HO4 := Lib.hid ho4
    have HW4 := Lib.hid hw4
    clear ho4 hw4
    by_cases hz : R.length = 0
    · have hz' : ((R.length : Int) == 0) = true := by simp [hz]
      clear hz
      go_wp2_with fail
      refine (sameInts_c _ _ R _ (Rd.of_own HO4.out) (Rd.of_own HW4.out)).mono ?_
      rintro e w5 ⟨rfl, hb5⟩
      have T5 := T4.trans (hb5.mono T4.size)
      go_wp2
      go_ret
      exact ⟨rfl, T5⟩
    · have hz' : ((R.length : Int) == 0) = false := by rw [beq_eq_false_iff_ne]; omega
      have hpos : 0 < R.length := by omega
      obtain ⟨hdv, hs0, hRe⟩ := samp_pos HR.out hpos
      have HD := Lib.hid (And.intro hdv hRe)
      have h8 := hdv.1
      have hplen : 0 < ps.length := by have := samp_le ps seed many; rw [HR.out] at this; omega
      clear hz hdv hRe
      have HP := Lib.hid hs0
      obtain ⟨-, av, cv, rfl, hv1, hv2, -⟩ := id HV4.out
      unfold maxLen at hv2
      have hsb : seed ≤ 39 := s2
      clear s1 s2 m1 m2 HW4
      go_wp2
      go_loopw [8, 9, 10] (fun i _ _ wr => ∃ k : Nat, k ≤ ps.length ∧ i = .int .i64 k ∧ Below w4.heap.size w4 wr) (fun i _ _ _ => ps.length - (intOf i).toNat)
      case atStart => exact ⟨0, Nat.zero_le _, rfl, Below.refl _ _⟩
      case round =>
        obtain ⟨i, hi, rfl, hbo⟩ := hrel
        obtain ⟨wo, rfl⟩ : ∃ wo : World, wo = wr := ⟨_, rfl⟩
        by_cases hlt : i < ps.length
        · obtain ⟨k0, hk0, hpk⟩ := plc_onto ps.length seed i hlt
          go_wp2
          go_loopw [9, 10] (fun m q wr => ∃ k : Nat, k ≤ ps.length ∧ q = .int .i64 k ∧ m = .int .i64 (if k0 < k then 1 else 0) ∧ Below w4.heap.size w4 wr) (fun _ q _ => ps.length - (intOf q).toNat)
          case atStart => exact ⟨0, Nat.zero_le _, rfl, by simp, hbo⟩
          case round =>
            clear hbo
            obtain ⟨k, hk, rfl, rfl, hb⟩ := hrel
            obtain ⟨m, hm⟩ : ∃ m : Int, (if k0 < k then 1 else 0) = m := ⟨_, rfl⟩
            have HM := Lib.hid hm
            have hm01 : 0 ≤ m ∧ m ≤ 1 := by rw [← hm]; split <;> omega
            obtain ⟨hmA, hmB⟩ := hm01
            rw [hm]
            clear hm
            by_cases hkl : k < ps.length
            · have HVr := Lib.hid (HV4.out.below hb)
              obtain ⟨-, a6, c6, e6, -, -, k6⟩ := id HVr.out
              simp only [Value.slice.injEq, true_and] at e6
              obtain ⟨rfl, rfl⟩ := e6
              obtain ⟨b1, o1, rfl, g1⟩ := k6 (by omega)
              obtain ⟨x, y, e1, u1, u2⟩ := at2 (Below.refl _ _) g1 i hlt
              obtain ⟨z, hz⟩ : ∃ z, sampAt ps seed k = z := ⟨_, rfl⟩
              have hsp : samp ps (seed + (k : Int)) 1 = [z] := by
                rw [samp_yes _ HD.out.1 (by have := HP.out; omega), show sampN ps 1 = 0 + 1 from by unfold sampN; omega, sampL_succ, sampAt_next, hz]; rfl
              have hzx : (z == x) = decide (k = k0) := by
                rw [sampAt_plc] at hz
                have hxe : (ps.getD (plc ps.length seed k0) (0, 0)).1 = x := by rw [hpk, e1]
                by_cases hkk : k = k0
                · subst hkk; rw [← hz, hxe]; simp
                · have hne : plc ps.length seed k ≠ plc ps.length seed k0 := fun h => hkk (plc_inj _ _ _ _ hkl hk0 h)
                  have hzx' : z ≠ x := by
                    rcases Nat.lt_or_gt_of_ne hne with hl' | hg'
                    · have := dv_lt HD.out.1 _ _ hl' (plc_lt _ seed k0 (by omega)); omega
                    · have := dv_lt HD.out.1 _ _ hg' (plc_lt _ seed k (by omega)); omega
                  rw [beq_eq_false_iff_ne.2 hzx']; simp [hkk]
              have HS := Lib.hid (And.intro hsp hzx)
              have hmw : IntKind.i64.wrap (seed + (k : Int)) = seed + (k : Int) := IntWalk.i64_in _ (by have := HP.out; omega)
              have hs00 : 0 ≤ seed := HP.out
              clear e1 k6 g1 hz hsp hzx
              by_cases hkk : k = k0
              · have hq : (z == x) = true := by rw [HS.out.2]; simpa using hkk
                have HK := Lib.hid hkk
                clear hkk
                go_wp2
                go_region_with (go_at_call 34; refine (dirSample_c _ ps (seed + (k : Int)) 1 _ HVr.out.drew).mono ?_; rintro e w5 ⟨v5, rfl, ho5, hb5⟩; rw [HS.out.1] at ho5; obtain ⟨g5, c5, rfl, q5⟩ := own_one ho5; have r5 := cell_keep hb5 u1; have T5 := hb.drew.trans (hb5.mono hb.size); clear hb5 ho5)
                all_goals
                  go_wp2
                  go_roundw
                  case rel => first | exact ⟨k + 1, by omega, by go_num, by rw [if_pos (by have := HK.out; omega), ← HM.out, if_neg (by have := HK.out; omega)]; rfl, T5⟩ | ((repeat apply Exists.intro); refine ⟨?_, rfl⟩; exact ⟨k + 1, by omega, by go_num, by rw [if_pos (by have := HK.out; omega), ← HM.out, if_neg (by have := HK.out; omega)]; rfl, T5⟩)
                  case measure => simp [intOf]; omega
              · have hq : (z == x) = false := by rw [HS.out.2]; simpa using hkk
                have HK := Lib.hid hkk
                clear hkk
                go_wp2
                go_region_with (go_at_call 34; refine (dirSample_c _ ps (seed + (k : Int)) 1 _ HVr.out.drew).mono ?_; rintro e w5 ⟨v5, rfl, ho5, hb5⟩; rw [HS.out.1] at ho5; obtain ⟨g5, c5, rfl, q5⟩ := own_one ho5; have r5 := cell_keep hb5 u1; have T5 := hb.drew.trans (hb5.mono hb.size); clear hb5 ho5)
                all_goals
                  go_wp2
                  go_roundw
                  case rel => first | exact ⟨k + 1, by omega, by go_num, by rw [← HM.out, count_skip (by have := HK.out; omega)], T5⟩ | ((repeat apply Exists.intro); refine ⟨?_, rfl⟩; exact ⟨k + 1, by omega, by go_num, by rw [← HM.out, count_skip (by have := HK.out; omega)], T5⟩)
                  case measure => simp [intOf]; omega
            · obtain rfl : k = ps.length := by omega
              have hm1 : m = 1 := by rw [← HM.out, if_pos hk0]
              subst hm1
              go_wp2
              go_roundw
              case rel => exact ⟨i + 1, by omega, by go_num, hb⟩
              case measure => simp [intOf]; omega
        · go_wp2
          go_ret
          exact ⟨rfl, T4.trans (hbo.mono T4.size)⟩
end Go.Proofs.Ytgicdfpcegaooaa
