/- The walks of further laws on samples. -/
import Derived.Test.YtgicdfpcegaooaaLSamp
import Derived.Test.YtgicdfpcegaooaaLSweep
namespace Go.Proofs.Ytgicdfpcegaooaa
open Go.RowKit
def hasB (zs : List Int) (x : Int) : Bool := zs.contains x
set_option maxHeartbeats 800000 in
theorem hasInt_c (v : Value) (zs : List Int) (x : Int) (w : World) (h : Rd 1 w v zs.length (enc1 zs)) :
    Calls Try.prog 44 #[v, .int .i64 x] w fun e w' => e = .returned (.bool (hasB zs x)) ∧ w = w' := by
  obtain ⟨-, a1, c1, rfl, h1, m1, k1⟩ := h
  unfold maxLen at m1
  go_enter Try.func44, Try.ntmps44
  go_wp2
  go_loop [5] (fun i => ∃ k : Nat, k ≤ zs.length ∧ i = .int .i64 k ∧ Hid (∀ j, j < k → zs.getD j 0 ≠ x)) (fun i => zs.length - (intOf i).toNat)
  case atStart => exact ⟨0, Nat.zero_le _, rfl, fun j hj => absurd hj (Nat.not_lt_zero _)⟩
  case round =>
    obtain ⟨k, hk, rfl, HN⟩ := hrel
    by_cases hlt : k < zs.length
    · obtain ⟨b1, o1, rfl, g1⟩ := k1 (by omega)
      obtain ⟨y, e1, u1⟩ := at1 (Below.refl _ _) g1 k hlt
      have HE := Lib.hid e1
      clear e1 g1 k1
      by_cases hx : y = x
      · have hx' : (y == x) = true := by simpa using hx
        have HT : Hid (hasB zs x = true) := by
          show zs.contains x = true
          rw [List.contains_iff_mem, ← hx, ← HE.out, List.getD_eq_getElem?_getD, List.getElem?_eq_getElem hlt]
          exact List.getElem_mem hlt
        clear hx
        go_wp2
        go_ret
        exact ⟨ret_bool (by rw [HT.out]), rfl⟩
      · have hx' : (y == x) = false := by simpa using hx
        have HX := Lib.hid hx
        clear hx
        go_wp2
        go_round
        case rel =>
          refine ⟨k + 1, by omega, by go_num, fun j hj => ?_⟩
          by_cases e : j = k
          · subst e; rw [HE.out]; exact HX.out
          · exact HN.out j (by omega)
        case measure => simp [intOf]; omega
    · have HT : Hid (hasB zs x = false) := by
        show zs.contains x = false
        rw [Bool.eq_false_iff]
        intro hc
        rw [List.contains_iff_mem] at hc
        obtain ⟨j, hj, rfl⟩ := List.getElem_of_mem hc
        have := HN.out j (by omega)
        rw [List.getD_eq_getElem?_getD, List.getElem?_eq_getElem hj] at this
        exact this rfl
      clear k1
      go_wp2
      go_ret
      exact ⟨ret_bool (by rw [HT.out]), rfl⟩
theorem sampL_at (ps : List P2) (seed : Int) (n k : Nat) (h : k < n) : (sampL ps seed n).getD k 0 = sampAt ps seed k := by
  unfold sampL
  rw [List.getD_eq_getElem?_getD, List.getElem?_map, List.getElem?_range h]; rfl
/-- the place in the directory of the sample's k-th node -/
def plc (L : Nat) (seed : Int) (k : Nat) : Nat := ((seed % (L : Int) + k) % (L : Int)).toNat
theorem plc_lt (L : Nat) (seed : Int) (k : Nat) (h : 0 < L) : plc L seed k < L := by
  unfold plc
  have h1 := Int.emod_nonneg (seed % (L : Int) + k) (show (L : Int) ≠ 0 by omega)
  have h2 := Int.emod_lt_of_pos (seed % (L : Int) + k) (show (0 : Int) < L by omega)
  omega
theorem plc_onto (L : Nat) (seed : Int) (i : Nat) (h : i < L) : ∃ k, k < L ∧ plc L seed k = i := by
  have hL : (0 : Int) < L := by omega
  have h1 := Int.emod_nonneg seed (show (L : Int) ≠ 0 by omega)
  have h2 := Int.emod_lt_of_pos seed hL
  obtain ⟨s, hs⟩ := Int.eq_ofNat_of_zero_le h1
  rw [hs] at h2
  by_cases hc : s ≤ i
  · refine ⟨i - s, by omega, ?_⟩
    unfold plc
    rw [hs, Int.emod_eq_of_lt (by omega) (by omega)]
    omega
  · refine ⟨i + L - s, by omega, ?_⟩
    unfold plc
    rw [hs, show ((s : Int) + ((i + L - s : Nat) : Int)) = (i : Int) + (L : Int) by omega, Int.add_emod_right, Int.emod_eq_of_lt (by omega) (by omega)]
    omega
theorem plc_inj (L : Nat) (seed : Int) (i j : Nat) (hi : i < L) (hj : j < L) (h : plc L seed i = plc L seed j) : i = j := by
  have hL : (0 : Int) < L := by omega
  have h1 := Int.emod_nonneg seed (show (L : Int) ≠ 0 by omega)
  have h2 := Int.emod_lt_of_pos seed hL
  obtain ⟨s, hs⟩ := Int.eq_ofNat_of_zero_le h1
  rw [hs] at h2
  have key : ∀ k : Nat, k < L → plc L seed k = if s + k < L then s + k else s + k - L := by
    intro k hk
    unfold plc
    rw [hs]
    split
    · rw [Int.emod_eq_of_lt (by omega) (by omega)]; omega
    · rw [show ((s : Int) + (k : Int)) = ((s + k - L : Nat) : Int) + (L : Int) by omega, Int.add_emod_right, Int.emod_eq_of_lt (by omega) (by omega)]; omega
  rw [key i hi, key j hj] at h
  split at h <;> split at h <;> omega
theorem sampAt_plc (ps : List P2) (seed : Int) (k : Nat) : sampAt ps seed k = (ps.getD (plc ps.length seed k) (0, 0)).1 := rfl
set_option maxHeartbeats 1600000 in
theorem lawFnSampleWhole_c (w : World) (v : Value) (n : Nat) (h : RdB w v n) : Calls Try.prog 12 #[v] w fun e w' => e = .returned (.bool true) ∧ Below w.heap.size w w' := by
  have hB := h
  obtain ⟨a, cap, rfl, h1, h2, -⟩ := h
  unfold maxLen at h2
  by_cases hn : 1048576 < n
  · go_enter Try.func12, Try.ntmps12
    go_wp2
    go_ret
    exact ⟨rfl, Below.refl _ _⟩
  · go_enter Try.func12, Try.ntmps12
    go_wp2_with fail
    refine (drawSample_c _ n _ hB).mono ?_
    rintro e w1 ⟨v, ps, seed, many, rfl, hl, hv, hsl, T1, s1, s2, m1, m2⟩
    clear hB
    have HV := Lib.hid hv
    have HSL := Lib.hid hsl
    obtain ⟨R, hR⟩ : ∃ R, samp ps seed many = R := ⟨_, rfl⟩
    have HR := Lib.hid hR
    have hRn : R.length ≤ 14 := by rw [← hR]; have := samp_le ps seed many; omega
    clear hv hsl hR
    go_wp2_with fail
    refine (dirSample_c _ ps seed many _ HV.out).mono ?_
    rintro e w2 ⟨vo, rfl, ho, hb2⟩
    rw [HR.out] at ho
    have HV2 := Lib.hid (HV.out.below hb2)
    have T2 := T1.trans (hb2.mono T1.size)
    clear HV hb2 T1
    go_wp2_with fail
    refine (specDirSample_c _ ps seed many _ HV2.out).mono ?_
    rintro e w3 ⟨vw, rfl, hw, hb3⟩
    rw [HR.out] at hw
    have HV3 := Lib.hid (HV2.out.below hb3)
    have T3 := T2.trans (hb3.mono T2.size)
    have ho3 := own_below ho hb3
    clear HV2 hb3 T2 ho
    go_wp2_with fail
    refine (sameInts_c _ _ R _ (Rd.of_own ho3) (Rd.of_own hw)).mono ?_
    rintro e w4 ⟨rfl, hb4⟩
    have HV4 := Lib.hid (HV3.out.below hb4)
    have T4 := T3.trans (hb4.mono T3.size)
    have ho4 := own_below ho3 hb4
    have hw4 := own_below hw hb4
    clear HV3 hb4 T3 ho3 hw
    obtain ⟨ao, co, rfl⟩ := own_slice ho4
    have HO4 := Lib.hid ho4
    have HW4 := Lib.hid hw4
    clear ho4 hw4
    by_cases hz : R.length = 0
    · have hz' : ((R.length : Int) == 0) = true := by simp [hz]
      clear hz
      go_wp2_with fail
      refine (sameInts_c _ _ R _ (Rd.of_own HO4.out) (Rd.of_own HW4.out)).mono ?_
      rintro e w5 ⟨rfl, hb5⟩
      have T5 := T4.trans (hb5.mono T4.size)
      go_wp2
      go_ret
      exact ⟨rfl, T5⟩
    · have hz' : ((R.length : Int) == 0) = false := by rw [beq_eq_false_iff_ne]; omega
      have hpos : 0 < R.length := by omega
      obtain ⟨hdv, hs0, hRe⟩ := samp_pos HR.out hpos
      have HD := Lib.hid (And.intro hdv hRe)
      have h8 := hdv.1
      have hplen : 0 < ps.length := by have := samp_le ps seed many; rw [HR.out] at this; omega
      clear hz hdv hRe
      have hs' : samp ps seed (ps.length : Int) = sampL ps seed ps.length := by
        rw [samp_yes _ HD.out.1 hs0]; congr 1; unfold sampN; omega
      have HS := Lib.hid (And.intro hs' (sampL_len ps seed ps.length))
      obtain ⟨-, av, cv, rfl, hv1, hv2, -⟩ := id HV4.out
      unfold maxLen at hv2
      clear hs'
      go_wp2_with fail
      refine (dirSample_c _ ps _ _ _ HV4.out).mono ?_
      rintro e w5 ⟨v5, rfl, ho5, hb5⟩
      rw [HS.out.1, HS.out.2] at ho5
      have HV5 := Lib.hid (HV4.out.below hb5)
      have T5 := T4.trans (hb5.mono T4.size)
      obtain ⟨a5, c5, rfl⟩ := own_slice ho5
      have HO5 := Lib.hid ho5
      clear hb5 T4 HO4 HW4 HV4 ho5
      go_wp2
      go_loop [9] (fun i => ∃ k : Nat, k ≤ ps.length ∧ i = .int .i64 k) (fun i => ps.length - (intOf i).toNat)
      case atStart => exact ⟨0, Nat.zero_le _, rfl⟩
      case round =>
        obtain ⟨k, hk, rfl⟩ := hrel
        by_cases hlt : k < ps.length
        · obtain ⟨-, a6, c6, e6, -, -, k6⟩ := id HV5.out
          simp only [Value.slice.injEq, true_and] at e6
          obtain ⟨rfl, rfl⟩ := e6
          obtain ⟨b1, o1, rfl, g1⟩ := k6 (by omega)
          obtain ⟨x, y, e1, u1, u2⟩ := at2 (Below.refl _ _) g1 k hlt
          have HC : Hid (hasB (sampL ps seed ps.length) x = true) := by
            show (sampL ps seed ps.length).contains x = true
            obtain ⟨q, hq, hpq⟩ := plc_onto ps.length seed k hlt
            rw [List.contains_iff_mem]
            have e := sampL_at ps seed ps.length q hq
            rw [sampAt_plc, hpq, e1] at e
            simp only [] at e
            rw [← e, List.getD_eq_getElem?_getD, List.getElem?_eq_getElem (by rw [sampL_len]; exact hq)]
            exact List.getElem_mem _
          clear e1 g1 k6
          go_wp2_with fail
          refine (hasInt_c _ (sampL ps seed ps.length) x _ (by have e := Rd.of_own HO5.out; rw [HS.out.2]; exact e)).mono ?_
          rintro e w6 ⟨rfl, rfl⟩
          rw [HC.out]
          go_wp2
          go_round
          case rel => exact ⟨k + 1, by omega, by go_num⟩
          case measure => simp [intOf]; omega
        · obtain rfl : k = ps.length := by omega
          go_wp2
          go_ret
          exact ⟨rfl, T5⟩
end Go.Proofs.Ytgicdfpcegaooaa
