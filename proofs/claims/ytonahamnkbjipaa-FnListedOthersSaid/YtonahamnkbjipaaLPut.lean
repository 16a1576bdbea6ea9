/- The walks of the laws on listing. -/
import Derived.Test.YtonahamnkbjipaaPutI
import Derived.Test.YtonahamnkbjipaaDput
namespace Go.Proofs.Ytonahamnkbjipaa
open Go.RowKit
set_option maxHeartbeats 1600000 in
theorem lawFnListedSize_c (w : World) (v : Value) (n : Nat) (h : RdB w v n) : Calls Try.prog 4 #[v] w fun e w' => e = .returned (.bool true) ∧ Below w.heap.size w w' := by
  have hB := h
  obtain ⟨a, cap, rfl, h1, h2, -⟩ := h
  unfold maxLen at h2
  by_cases hn : 1048576 < n
  · go_enter Try.func4, Try.ntmps4
    go_wp2
    go_ret
    exact ⟨rfl, Below.refl _ _⟩
  · go_enter Try.func4, Try.ntmps4
    go_wp2_with fail
    refine (drawPut_c _ n _ hB).mono ?_
    rintro e w1 ⟨v, ps, node, now, rfl, hl, hv, hsl, T1⟩
    clear hB
    have HV := Lib.hid hv
    have HSL := Lib.hid hsl
    obtain ⟨R, b, hR⟩ : ∃ R b, dput ps node now = (R, b) := ⟨_, _, rfl⟩
    have HR := Lib.hid hR
    have hRn : R.length ≤ 15 := by have := dput_len ps node now; rw [hR] at this; simp only [] at this; omega
    clear hv hsl hR
    go_wp2_with fail
    refine (dirPut_c _ ps node now _ HV.out HSL.out).mono ?_
    rintro e w2 ⟨vo, rfl, ho, hb2⟩
    rw [HR.out] at ho
    rw [HR.out]
    have ho : w2.ownsRow w1.heap.size 30 2 vo R.length (enc2 R) := ho
    have HV2 := Lib.hid (HV.out.below hb2)
    have T2 := T1.trans (hb2.mono T1.size)
    clear HV hb2 T1
    go_wp2_with fail
    refine (specPut_c _ ps node now _ HV2.out HSL.out).mono ?_
    rintro e w3 ⟨vw, rfl, hw, hb3⟩
    rw [HR.out] at hw
    rw [HR.out]
    have hw : w3.ownsRow w2.heap.size 30 2 vw R.length (enc2 R) := hw
    have HV3 := Lib.hid (HV2.out.below hb3)
    have T3 := T2.trans (hb3.mono T2.size)
    have ho3 := own_below ho hb3
    clear HV2 hb3 T2 ho
    obtain ⟨ao, co, rfl⟩ := own_slice ho3
    obtain ⟨aw, cw, rfl⟩ := own_slice hw
    have HO3 := Lib.hid ho3
    have HW3 := Lib.hid hw
    clear ho3 hw
    cases b with
    | false =>
      go_wp2_with fail
      refine (sameListed_c _ _ R _ (Rd.of_own HO3.out) (Rd.of_own HW3.out)).mono ?_
      rintro e w4 ⟨rfl, hb4⟩
      have HV4 := Lib.hid (HV3.out.below hb4)
      have T4 := T3.trans (hb4.mono T3.size)
      have HO4 := Lib.hid (own_below HO3.out hb4)
      have HW4 := Lib.hid (own_below HW3.out hb4)
      clear HV3 hb4 T3 HO3 HW3
      go_wp2_with fail
      refine (sameListed_c _ _ R _ (Rd.of_own HO4.out) (Rd.of_own HW4.out)).mono ?_
      rintro e w5 ⟨rfl, hb5⟩
      have HV5 := Lib.hid (HV4.out.below hb5)
      have T5 := T4.trans (hb5.mono T4.size)
      have HO5 := Lib.hid (own_below HO4.out hb5)
      have HW5 := Lib.hid (own_below HW4.out hb5)
      clear HV4 hb5 T4 HO4 HW4
      go_wp2
      go_ret
      exact ⟨rfl, T5⟩
    | true =>
      have HS := put_size HR.out
      obtain ⟨hs1, hs2⟩ := HS
      have hs1' : (R.length : Int) ≤ 8 := by omega
      have hs2' : (R.length : Int) ≤ (ps.length : Int) + 1 := by omega
      go_wp2_with fail
      refine (sameListed_c _ _ R _ (Rd.of_own HO3.out) (Rd.of_own HW3.out)).mono ?_
      rintro e w4 ⟨rfl, hb4⟩
      have HV4 := Lib.hid (HV3.out.below hb4)
      have T4 := T3.trans (hb4.mono T3.size)
      have HO4 := Lib.hid (own_below HO3.out hb4)
      have HW4 := Lib.hid (own_below HW3.out hb4)
      clear HV3 hb4 T3 HO3 HW3
      obtain ⟨a7, c7, e7⟩ : ∃ a c, v = .slice a ps.length c := by obtain ⟨-, a, c, e, -⟩ := HV4.out; exact ⟨a, c, e⟩
      subst e7
      go_wp2
      go_ret
      exact ⟨rfl, T4⟩
set_option maxHeartbeats 1600000 in
theorem lawFnListedTwice_c (w : World) (v : Value) (n : Nat) (h : RdB w v n) : Calls Try.prog 5 #[v] w fun e w' => e = .returned (.bool true) ∧ Below w.heap.size w w' := by
  have hB := h
  obtain ⟨a, cap, rfl, h1, h2, -⟩ := h
  unfold maxLen at h2
  by_cases hn : 1048576 < n
  · go_enter Try.func5, Try.ntmps5
    go_wp2
    go_ret
    exact ⟨rfl, Below.refl _ _⟩
  · go_enter Try.func5, Try.ntmps5
    go_wp2_with fail
    refine (drawPut_c _ n _ hB).mono ?_
    rintro e w1 ⟨v, ps, node, now, rfl, hl, hv, hsl, T1⟩
    clear hB
    have HV := Lib.hid hv
    have HSL := Lib.hid hsl
    obtain ⟨R, b, hR⟩ : ∃ R b, dput ps node now = (R, b) := ⟨_, _, rfl⟩
    have HR := Lib.hid hR
    have hRn : R.length ≤ 15 := by have := dput_len ps node now; rw [hR] at this; simp only [] at this; omega
    clear hv hsl hR
    go_wp2_with fail
    refine (dirPut_c _ ps node now _ HV.out HSL.out).mono ?_
    rintro e w2 ⟨vo, rfl, ho, hb2⟩
    rw [HR.out] at ho
    rw [HR.out]
    have ho : w2.ownsRow w1.heap.size 30 2 vo R.length (enc2 R) := ho
    have HV2 := Lib.hid (HV.out.below hb2)
    have T2 := T1.trans (hb2.mono T1.size)
    clear HV hb2 T1
    go_wp2_with fail
    refine (specPut_c _ ps node now _ HV2.out HSL.out).mono ?_
    rintro e w3 ⟨vw, rfl, hw, hb3⟩
    rw [HR.out] at hw
    rw [HR.out]
    have hw : w3.ownsRow w2.heap.size 30 2 vw R.length (enc2 R) := hw
    have HV3 := Lib.hid (HV2.out.below hb3)
    have T3 := T2.trans (hb3.mono T2.size)
    have ho3 := own_below ho hb3
    clear HV2 hb3 T2 ho
    obtain ⟨ao, co, rfl⟩ := own_slice ho3
    obtain ⟨aw, cw, rfl⟩ := own_slice hw
    have HO3 := Lib.hid ho3
    have HW3 := Lib.hid hw
    clear ho3 hw
    cases b with
    | false =>
      go_wp2_with fail
      refine (sameListed_c _ _ R _ (Rd.of_own HO3.out) (Rd.of_own HW3.out)).mono ?_
      rintro e w4 ⟨rfl, hb4⟩
      have HV4 := Lib.hid (HV3.out.below hb4)
      have T4 := T3.trans (hb4.mono T3.size)
      have HO4 := Lib.hid (own_below HO3.out hb4)
      have HW4 := Lib.hid (own_below HW3.out hb4)
      clear HV3 hb4 T3 HO3 HW3
      go_wp2_with fail
      refine (sameListed_c _ _ R _ (Rd.of_own HO4.out) (Rd.of_own HW4.out)).mono ?_
      rintro e w5 ⟨rfl, hb5⟩
      have HV5 := Lib.hid (HV4.out.below hb5)
      have T5 := T4.trans (hb5.mono T4.size)
      have HO5 := Lib.hid (own_below HO4.out hb5)
      have HW5 := Lib.hid (own_below HW4.out hb5)
      clear HV4 hb5 T4 HO4 HW4
      go_wp2
      go_ret
      exact ⟨rfl, T5⟩
    | true =>
      have HP := Lib.hid (put_twice HR.out)
      go_wp2_with fail
      refine (sameListed_c _ _ R _ (Rd.of_own HO3.out) (Rd.of_own HW3.out)).mono ?_
      rintro e w4 ⟨rfl, hb4⟩
      have HV4 := Lib.hid (HV3.out.below hb4)
      have T4 := T3.trans (hb4.mono T3.size)
      have HO4 := Lib.hid (own_below HO3.out hb4)
      have HW4 := Lib.hid (own_below HW3.out hb4)
      clear HV3 hb4 T3 HO3 HW3
      go_wp2_with fail
      refine (dirPut_c _ R node now _ (Rd.of_own HO4.out) (Sl.of_own HO4.out)).mono ?_
      rintro e w5 ⟨vx, rfl, hx, hb5⟩
      rw [HP.out] at hx
      rw [HP.out]
      have hx : w5.ownsRow w4.heap.size 30 2 vx R.length (enc2 R) := hx
      have HO5 := Lib.hid (own_below HO4.out hb5)
      have T5 := T4.trans (hb5.mono T4.size)
      clear HO4 HW4 T4 hb5
      go_wp2_with fail
      refine (sameListed_c _ _ R _ (Rd.of_own hx) (Rd.of_own HO5.out)).mono ?_
      rintro e w6 ⟨rfl, hb6⟩
      have T6 := T5.trans (hb6.mono T5.size)
      go_wp2
      go_ret
      exact ⟨rfl, T6⟩
set_option maxHeartbeats 1600000 in
theorem lawFnListed_c (w : World) (v : Value) (n : Nat) (h : RdB w v n) : Calls Try.prog 7 #[v] w fun e w' => e = .returned (.bool true) ∧ Below w.heap.size w w' := by
  have hB := h
  obtain ⟨a, cap, rfl, h1, h2, -⟩ := h
  unfold maxLen at h2
  by_cases hn : 1048576 < n
  · go_enter Try.func7, Try.ntmps7
    go_wp2
    go_ret
    exact ⟨rfl, Below.refl _ _⟩
  · go_enter Try.func7, Try.ntmps7
    go_wp2_with fail
    refine (drawPut_c _ n _ hB).mono ?_
    rintro e w1 ⟨v, ps, node, now, rfl, hl, hv, hsl, T1⟩
    clear hB
    have HV := Lib.hid hv
    have HSL := Lib.hid hsl
    obtain ⟨R, b, hR⟩ : ∃ R b, dput ps node now = (R, b) := ⟨_, _, rfl⟩
    have HR := Lib.hid hR
    have hRn : R.length ≤ 15 := by have := dput_len ps node now; rw [hR] at this; simp only [] at this; omega
    clear hv hsl hR
    go_wp2_with fail
    refine (dirPut_c _ ps node now _ HV.out HSL.out).mono ?_
    rintro e w2 ⟨vo, rfl, ho, hb2⟩
    rw [HR.out] at ho
    rw [HR.out]
    have ho : w2.ownsRow w1.heap.size 30 2 vo R.length (enc2 R) := ho
    have HV2 := Lib.hid (HV.out.below hb2)
    have T2 := T1.trans (hb2.mono T1.size)
    clear HV hb2 T1
    go_wp2_with fail
    refine (specPut_c _ ps node now _ HV2.out HSL.out).mono ?_
    rintro e w3 ⟨vw, rfl, hw, hb3⟩
    rw [HR.out] at hw
    rw [HR.out]
    have hw : w3.ownsRow w2.heap.size 30 2 vw R.length (enc2 R) := hw
    have HV3 := Lib.hid (HV2.out.below hb3)
    have T3 := T2.trans (hb3.mono T2.size)
    have ho3 := own_below ho hb3
    clear HV2 hb3 T2 ho
    obtain ⟨ao, co, rfl⟩ := own_slice ho3
    obtain ⟨aw, cw, rfl⟩ := own_slice hw
    have HO3 := Lib.hid ho3
    have HW3 := Lib.hid hw
    clear ho3 hw
    cases b with
    | false =>
      go_wp2_with fail
      refine (sameListed_c _ _ R _ (Rd.of_own HO3.out) (Rd.of_own HW3.out)).mono ?_
      rintro e w4 ⟨rfl, hb4⟩
      have HV4 := Lib.hid (HV3.out.below hb4)
      have T4 := T3.trans (hb4.mono T3.size)
      have HO4 := Lib.hid (own_below HO3.out hb4)
      have HW4 := Lib.hid (own_below HW3.out hb4)
      clear HV3 hb4 T3 HO3 HW3
      go_wp2_with fail
      refine (sameListed_c _ _ R _ (Rd.of_own HO4.out) (Rd.of_own HW4.out)).mono ?_
      rintro e w5 ⟨rfl, hb5⟩
      have HV5 := Lib.hid (HV4.out.below hb5)
      have T5 := T4.trans (hb5.mono T4.size)
      have HO5 := Lib.hid (own_below HO4.out hb5)
      have HW5 := Lib.hid (own_below HW4.out hb5)
      clear HV4 hb5 T4 HO4 HW4
      go_wp2
      go_ret
      exact ⟨rfl, T5⟩
    | true =>
      have HP := Lib.hid (And.intro (put_dv HR.out).1 (put_time HR.out))
      go_wp2_with fail
      refine (sameListed_c _ _ R _ (Rd.of_own HO3.out) (Rd.of_own HW3.out)).mono ?_
      rintro e w4 ⟨rfl, hb4⟩
      have HV4 := Lib.hid (HV3.out.below hb4)
      have T4 := T3.trans (hb4.mono T3.size)
      have HO4 := Lib.hid (own_below HO3.out hb4)
      have HW4 := Lib.hid (own_below HW3.out hb4)
      clear HV3 hb4 T3 HO3 HW3
      go_wp2_with fail
      refine (dirValid_c _ R _ (Rd.of_own HO4.out)).mono ?_
      rintro e w5 ⟨rfl, hb5⟩
      rw [dvB_true HP.out.1]
      have HV5 := Lib.hid (HV4.out.below hb5)
      have HO5 := Lib.hid (own_below HO4.out hb5)
      have T5 := T4.trans (hb5.mono T4.size)
      clear HV4 HO4 HW4 T4 hb5
      obtain ⟨t1, ht1⟩ : ∃ t, tm node R = t := ⟨_, rfl⟩
      obtain ⟨t2, ht2⟩ : ∃ t, tm node ps = t := ⟨_, rfl⟩
      have h1 := HP.out.2.1
      have h2 := HP.out.2.2
      rw [ht1] at h1 h2
      rw [ht2] at h2
      have HT := Lib.hid (And.intro ht1 ht2)
      clear ht1 ht2
      go_wp2_with fail
      refine (timeOf_c _ R node _ (Rd.of_own HO5.out)).mono ?_
      rintro e _ ⟨rfl, rfl⟩
      rw [HT.out.1]
      go_wp2_with fail
      refine (timeOf_c _ R node _ (Rd.of_own HO5.out)).mono ?_
      rintro e _ ⟨rfl, rfl⟩
      rw [HT.out.1]
      go_wp2_with fail
      refine (timeOf_c _ ps node _ HV5.out).mono ?_
      rintro e _ ⟨rfl, rfl⟩
      rw [HT.out.2]
      go_wp2
      go_ret
      exact ⟨rfl, T5⟩
set_option maxHeartbeats 1600000 in
theorem lawFnListedFull_c (w : World) (v : Value) (n : Nat) (h : RdB w v n) : Calls Try.prog 3 #[v] w fun e w' => e = .returned (.bool true) ∧ Below w.heap.size w w' := by
  have hB := h
  obtain ⟨a, cap, rfl, h1, h2, -⟩ := h
  unfold maxLen at h2
  by_cases hn : 1048576 < n
  · go_enter Try.func3, Try.ntmps3
    go_wp2
    go_ret
    exact ⟨rfl, Below.refl _ _⟩
  · go_enter Try.func3, Try.ntmps3
    go_wp2_with fail
    refine (drawPut_c _ n _ hB).mono ?_
    rintro e w1 ⟨v, ps, node, now, rfl, hl, hv, hsl, T1⟩
    clear hB
    have HV := Lib.hid hv
    have HSL := Lib.hid hsl
    obtain ⟨R, b, hR⟩ : ∃ R b, dput ps node now = (R, b) := ⟨_, _, rfl⟩
    have HR := Lib.hid hR
    have hRn : R.length ≤ 15 := by have := dput_len ps node now; rw [hR] at this; simp only [] at this; omega
    clear hv hsl hR
    go_wp2_with fail
    refine (dirPut_c _ ps node now _ HV.out HSL.out).mono ?_
    rintro e w2 ⟨vo, rfl, ho, hb2⟩
    rw [HR.out] at ho
    rw [HR.out]
    have ho : w2.ownsRow w1.heap.size 30 2 vo R.length (enc2 R) := ho
    have HV2 := Lib.hid (HV.out.below hb2)
    have T2 := T1.trans (hb2.mono T1.size)
    clear HV hb2 T1
    go_wp2_with fail
    refine (specPut_c _ ps node now _ HV2.out HSL.out).mono ?_
    rintro e w3 ⟨vw, rfl, hw, hb3⟩
    rw [HR.out] at hw
    rw [HR.out]
    have hw : w3.ownsRow w2.heap.size 30 2 vw R.length (enc2 R) := hw
    have HV3 := Lib.hid (HV2.out.below hb3)
    have T3 := T2.trans (hb3.mono T2.size)
    have ho3 := own_below ho hb3
    clear HV2 hb3 T2 ho
    obtain ⟨ao, co, rfl⟩ := own_slice ho3
    obtain ⟨aw, cw, rfl⟩ := own_slice hw
    have HO3 := Lib.hid ho3
    have HW3 := Lib.hid hw
    clear ho3 hw
    cases b with
    | true =>
      go_wp2_with fail
      refine (sameListed_c _ _ R _ (Rd.of_own HO3.out) (Rd.of_own HW3.out)).mono ?_
      rintro e w4 ⟨rfl, hb4⟩
      have HV4 := Lib.hid (HV3.out.below hb4)
      have T4 := T3.trans (hb4.mono T3.size)
      have HO4 := Lib.hid (own_below HO3.out hb4)
      have HW4 := Lib.hid (own_below HW3.out hb4)
      clear HV3 hb4 T3 HO3 HW3
      go_wp2_with fail
      refine (sameListed_c _ _ R _ (Rd.of_own HO4.out) (Rd.of_own HW4.out)).mono ?_
      rintro e w5 ⟨rfl, hb5⟩
      have HV5 := Lib.hid (HV4.out.below hb5)
      have T5 := T4.trans (hb5.mono T4.size)
      have HO5 := Lib.hid (own_below HO4.out hb5)
      have HW5 := Lib.hid (own_below HW4.out hb5)
      clear HV4 hb5 T4 HO4 HW4
      go_wp2
      go_ret
      exact ⟨rfl, T5⟩
    | false =>
      by_cases hz : R = []
      · have hze : ((R.length : Int) == 0) = true := by rw [hz]; rfl
        clear hz
        go_wp2_with fail
        refine (sameListed_c _ _ R _ (Rd.of_own HO3.out) (Rd.of_own HW3.out)).mono ?_
        rintro e w4 ⟨rfl, hb4⟩
        have HV4 := Lib.hid (HV3.out.below hb4)
        have T4 := T3.trans (hb4.mono T3.size)
        have HO4 := Lib.hid (own_below HO3.out hb4)
        have HW4 := Lib.hid (own_below HW3.out hb4)
        clear HV3 hb4 T3 HO3 HW3
        go_wp2_with fail
        refine (sameListed_c _ _ R _ (Rd.of_own HO4.out) (Rd.of_own HW4.out)).mono ?_
        rintro e w5 ⟨rfl, hb5⟩
        have HV5 := Lib.hid (HV4.out.below hb5)
        have T5 := T4.trans (hb5.mono T4.size)
        have HO5 := Lib.hid (own_below HO4.out hb5)
        have HW5 := Lib.hid (own_below HW4.out hb5)
        clear HV4 hb5 T4 HO4 HW4
        go_wp2
        go_ret
        exact ⟨rfl, T5⟩
      · have hne : ((R.length : Int) == 0) = false := by rw [beq_eq_false_iff_ne]; have := List.length_pos_iff.2 hz; omega
        have HP := Lib.hid (put_full HR.out hz)
        clear hz
        go_wp2_with fail
        refine (sameListed_c _ _ R _ (Rd.of_own HO3.out) (Rd.of_own HW3.out)).mono ?_
        rintro e w4 ⟨rfl, hb4⟩
        have HV4 := Lib.hid (HV3.out.below hb4)
        have T4 := T3.trans (hb4.mono T3.size)
        have HO4 := Lib.hid (own_below HO3.out hb4)
        have HW4 := Lib.hid (own_below HW3.out hb4)
        clear HV3 hb4 T3 HO3 HW3
        obtain ⟨-, a7, c7, e7, q1, q2, q3⟩ := HV4.out
        unfold maxLen at q2
        subst e7
        have hl8 : (ps.length : Int) ≤ 14 := by omega
        go_wp2
        go_loop [10] (fun i => ∃ k : Nat, k ≤ ps.length ∧ i = .int .i64 k) (fun i => ps.length - (intOf i).toNat)
        case atStart => exact ⟨0, Nat.zero_le _, rfl⟩
        case round =>
          obtain ⟨k, hk, rfl⟩ := hrel
          by_cases hlt : k < ps.length
          · obtain ⟨b1, o1, rfl, g1⟩ := q3 (by omega)
            obtain ⟨x, y, e1, u1, u2⟩ := at2 (Below.refl _ _) g1 k hlt
            have hp := HP.out.2.2 k hlt
            rw [e1] at hp
            obtain ⟨p1, p2, hy1, hy2⟩ := hp
            simp only [] at p1 p2 hy1 hy2
            have p1' : ¬ (y + 10 < now) := by omega
            have p2' : (x == node) = false := by rw [beq_eq_false_iff_ne]; exact p2
            clear e1 q3 g1 p2 p1
            go_wp2
            go_round
            case rel => exact ⟨k + 1, by omega, by go_num⟩
            case measure => simp [intOf]; omega
          · obtain rfl : k = ps.length := by omega
            have hl8' : ((ps.length : Int) == 8) = true := by rw [HP.out.2.1]; rfl
            clear q3
            go_wp2_with fail
            refine (sameListed_c _ _ R _ (Rd.of_own HO4.out) (by rw [HP.out.1]; exact HV4.out)).mono ?_
            rintro e w9 ⟨rfl, hb9⟩
            have T9 := T4.trans (hb9.mono T4.size)
            go_wp2
            go_ret
            exact ⟨rfl, T9⟩
theorem rd_move {sz : Nat} {w w' : World} {v : Value} {n : Nat} {flat : List Value} (h : Rd sz w v n flat) (hc : ∀ a u, w.cell? a = some u → w'.cell? a = some u) : Rd sz w' v n flat := by
  obtain ⟨hl, a, cap, hv, h1, h2, h3⟩ := h
  refine ⟨hl, a, cap, hv, h1, h2, fun hn => ?_⟩
  obtain ⟨b, off, ha, hc'⟩ := h3 hn
  exact ⟨b, off, ha, fun j u hj => hc _ _ (hc' j u hj)⟩
theorem timeOf_q (v : Value) (ps : List P2) (node t : Int) (w : World) (k : Nat) (h : Rd 2 w v ps.length (enc2 ps)) (ht : tm node ps = t) :
    Calls Try.prog 19 #[v, .int .i64 node] (w.drewN k) fun e w'' => e = .returned (.int .i64 t) ∧ ∃ m, w'' = w.drewN m :=
  Calls.quiet_of_same ((timeOf_c v ps node _ (rd_move h fun _ _ hc => by simpa using hc)).mono fun _ _ ⟨a, b⟩ => ⟨by rw [← ht]; exact a, b.symm⟩)
set_option maxHeartbeats 1600000 in
theorem lawFnListedOthers_c (w : World) (v : Value) (n : Nat) (h : RdB w v n) : Calls Try.prog 8 #[v] w fun e w' => e = .returned (.bool true) ∧ Below w.heap.size w w' := by
  have hB := h
  obtain ⟨a, cap, rfl, h1, h2, -⟩ := h
  unfold maxLen at h2
  by_cases hn : 1048576 < n
  · go_enter Try.func8, Try.ntmps8
    go_wp2
    go_ret
    exact ⟨rfl, Below.refl _ _⟩
  · go_enter Try.func8, Try.ntmps8
    go_wp2_with fail
    refine (drawPut_c _ n _ hB).mono ?_
    rintro e w1 ⟨v, ps, node, now, rfl, hl, hv, hsl, T1⟩
    clear hB
    have HV := Lib.hid hv
    have HSL := Lib.hid hsl
    obtain ⟨R, b, hR⟩ : ∃ R b, dput ps node now = (R, b) := ⟨_, _, rfl⟩
    have HR := Lib.hid hR
    have hRn : R.length ≤ 15 := by have := dput_len ps node now; rw [hR] at this; simp only [] at this; omega
    clear hv hsl hR
    go_wp2_with fail
    refine (dirPut_c _ ps node now _ HV.out HSL.out).mono ?_
    rintro e w2 ⟨vo, rfl, ho, hb2⟩
    rw [HR.out] at ho
    rw [HR.out]
    have ho : w2.ownsRow w1.heap.size 30 2 vo R.length (enc2 R) := ho
    have HV2 := Lib.hid (HV.out.below hb2)
    have T2 := T1.trans (hb2.mono T1.size)
    clear HV hb2 T1
    go_wp2_with fail
    refine (specPut_c _ ps node now _ HV2.out HSL.out).mono ?_
    rintro e w3 ⟨vw, rfl, hw, hb3⟩
    rw [HR.out] at hw
    rw [HR.out]
    have hw : w3.ownsRow w2.heap.size 30 2 vw R.length (enc2 R) := hw
    have HV3 := Lib.hid (HV2.out.below hb3)
    have T3 := T2.trans (hb3.mono T2.size)
    have ho3 := own_below ho hb3
    clear HV2 hb3 T2 ho
    obtain ⟨ao, co, rfl⟩ := own_slice ho3
    obtain ⟨aw, cw, rfl⟩ := own_slice hw
    have HO3 := Lib.hid ho3
    have HW3 := Lib.hid hw
    clear ho3 hw
    by_cases hd : DV ps
    · have HD := Lib.hid hd
      clear hd
      by_cases hz : R = []
      · have hze : ((R.length : Int) == 0) = true := by rw [hz]; rfl
        clear hz
        cases b
        all_goals
          go_wp2_with fail
          refine (sameListed_c _ _ R _ (Rd.of_own HO3.out) (Rd.of_own HW3.out)).mono ?_
          rintro e w4 ⟨rfl, hb4⟩
          have HV4 := Lib.hid (HV3.out.below hb4)
          have T4 := T3.trans (hb4.mono T3.size)
          have HO4 := Lib.hid (own_below HO3.out hb4)
          have HW4 := Lib.hid (own_below HW3.out hb4)
          clear HV3 hb4 T3 HO3 HW3
          go_wp2_with fail
          refine (specDirValid_c _ ps _ HV4.out).mono ?_
          rintro e w5 ⟨rfl, hb5⟩
          rw [dvB_true HD.out]
          have HV5 := Lib.hid (HV4.out.below hb5)
          have T5 := T4.trans (hb5.mono T4.size)
          have HO5 := Lib.hid (own_below HO4.out hb5)
          have HW5 := Lib.hid (own_below HW4.out hb5)
          clear HV4 hb5 T4 HO4 HW4
          go_wp2_with fail
          refine (sameListed_c _ _ R _ (Rd.of_own HO5.out) (Rd.of_own HW5.out)).mono ?_
          rintro e w6 ⟨rfl, hb6⟩
          have HV6 := Lib.hid (HV5.out.below hb6)
          have T6 := T5.trans (hb6.mono T5.size)
          have HO6 := Lib.hid (own_below HO5.out hb6)
          have HW6 := Lib.hid (own_below HW5.out hb6)
          clear HV5 hb6 T5 HO5 HW5
          go_wp2
          go_ret
          exact ⟨rfl, T6⟩
      · have hne : ((R.length : Int) == 0) = false := by rw [beq_eq_false_iff_ne]; have := List.length_pos_iff.2 hz; omega
        cases b
        all_goals
          go_wp2_with fail
          refine (sameListed_c _ _ R _ (Rd.of_own HO3.out) (Rd.of_own HW3.out)).mono ?_
          rintro e w4 ⟨rfl, hb4⟩
          have HV4 := Lib.hid (HV3.out.below hb4)
          have T4 := T3.trans (hb4.mono T3.size)
          have HO4 := Lib.hid (own_below HO3.out hb4)
          have HW4 := Lib.hid (own_below HW3.out hb4)
          clear HV3 hb4 T3 HO3 HW3
          go_wp2_with fail
          refine (specDirValid_c _ ps _ HV4.out).mono ?_
          rintro e w5 ⟨rfl, hb5⟩
          rw [dvB_true HD.out]
          have HV5 := Lib.hid (HV4.out.below hb5)
          have T5 := T4.trans (hb5.mono T4.size)
          have HO5 := Lib.hid (own_below HO4.out hb5)
          have HW5 := Lib.hid (own_below HW4.out hb5)
          clear HV4 hb5 T4 HO4 HW4
          obtain ⟨-, a7, c7, e7, q1, q2, q3⟩ := HV5.out
          unfold maxLen at q2
          subst e7
          have hl8 : (ps.length : Int) ≤ 14 := by omega
          go_wp2
          go_loopw [10] (fun i wr => ∃ k : Nat, k ≤ ps.length ∧ i = .int .i64 k ∧ Below w.heap.size w wr ∧ Hid (∀ a u, w5.cell? a = some u → wr.cell? a = some u)) (fun i _ => ps.length - (intOf i).toNat)
          case atStart => exact ⟨0, Nat.zero_le _, rfl, T5, fun _ _ h => h⟩
          case round =>
            obtain ⟨k, hk, rfl, hb, HC⟩ := hrel
            have HB := Lib.hid hb
            clear hb
            by_cases hlt : k < ps.length
            · obtain ⟨b1, o1, rfl, g1⟩ := q3 (by omega)
              obtain ⟨x, y, e1, u1, u2⟩ := at2 (Below.refl _ _) g1 k hlt
              have u1 := HC.out _ _ u1
              have u2 := HC.out _ _ u2
              have hr := HD.out.2 k hlt
              unfold dvAt at hr
              rw [e1] at hr
              obtain ⟨x1, x2, y1, y2, -⟩ := hr
              simp only [] at x1 x2 y1 y2
              have HE := Lib.hid e1
              have hw1 : IntKind.i64.wrap (y + 10) = y + 10 := by rw [IntKind.wrap_i64]; omega
              have hk0 : (0 : Int) ≤ (k : Int) := by omega
              have hk1 : (k : Int) < (ps.length : Int) := by omega
              clear e1 q3 g1
              by_cases hf : now ≤ y + 10
              · by_cases hx : x = node
                · have hx' : (x == node) = true := by rw [beq_iff_eq]; exact hx
                  have hx'' : (x != node) = false := by rw [bne_eq_false_iff_eq]; exact hx
                  clear hx
                  go_wp2
                  go_quiet (fail)
                  go_wp2
                  go_roundw
                  case rel => exact ⟨k + 1, by omega, by go_num, by have := HB.out; (repeat' (first | exact Below.refl _ _ | assumption | refine Below.drew ?_ | refine below_drewN ?_ _ | refine Below.alloc ?_ (by omega) _ | refine Below.alloc ?_ (by simp; omega) _ | refine Below.alloc ?_ (by simp) _ | refine Below.setCell ?_ (by omega) _ | refine Below.setCell ?_ (by simp; omega) _ | refine Below.setCell ?_ (by simp) _)), fun a u h => by have := HC.out a u h; simpa using this⟩
                  case measure => simp [intOf]; omega
                · have HT := Lib.hid (put_others HR.out hz k hlt (by rw [HE.out]; exact hf) (by rw [HE.out]; exact hx))
                  have hx' : (x == node) = false := by rw [beq_eq_false_iff_ne]; exact hx
                  have hx'' : (x != node) = true := by rw [bne_iff_ne]; exact hx
                  clear hx
                  have HTm : Hid (tm x R = y) := by show _ = _; have := HT.out; rw [HE.out] at this; exact this
                  have HRd : Hid (Rd 2 wr (.slice ao R.length co) R.length (enc2 R)) := rd_move (Rd.of_own HO5.out) HC.out
                  clear HT
                  go_wp2
                  go_quiet ((first | exact timeOf_q _ R x y _ _ HRd.out HTm.out))
                  go_wp2
                  go_roundw
                  case rel => exact ⟨k + 1, by omega, by go_num, by have := HB.out; (repeat' (first | exact Below.refl _ _ | assumption | refine Below.drew ?_ | refine below_drewN ?_ _ | refine Below.alloc ?_ (by omega) _ | refine Below.alloc ?_ (by simp; omega) _ | refine Below.alloc ?_ (by simp) _ | refine Below.setCell ?_ (by omega) _ | refine Below.setCell ?_ (by simp; omega) _ | refine Below.setCell ?_ (by simp) _)), fun a u h => by have := HC.out a u h; simpa using this⟩
                  case measure => simp [intOf]; omega
              · have hf' : ¬ (now ≤ y + 10) := hf
                have hd : decide (now ≤ y + 10) = false := by simpa using hf
                go_wp2
                go_quiet (fail)
                go_wp2
                go_roundw
                case rel => exact ⟨k + 1, by omega, by go_num, by have := HB.out; (repeat' (first | exact Below.refl _ _ | assumption | refine Below.drew ?_ | refine below_drewN ?_ _ | refine Below.alloc ?_ (by omega) _ | refine Below.alloc ?_ (by simp; omega) _ | refine Below.alloc ?_ (by simp) _ | refine Below.setCell ?_ (by omega) _ | refine Below.setCell ?_ (by simp; omega) _ | refine Below.setCell ?_ (by simp) _)), fun a u h => by have := HC.out a u h; simpa using this⟩
                case measure => simp [intOf]; omega
            · obtain rfl : k = ps.length := by omega
              clear q3
              go_wp2
              go_ret
              exact ⟨rfl, HB.out⟩
    · have HD := Lib.hid hd
      clear hd
      cases b
      all_goals
        go_wp2_with fail
        refine (sameListed_c _ _ R _ (Rd.of_own HO3.out) (Rd.of_own HW3.out)).mono ?_
        rintro e w4 ⟨rfl, hb4⟩
        have HV4 := Lib.hid (HV3.out.below hb4)
        have T4 := T3.trans (hb4.mono T3.size)
        have HO4 := Lib.hid (own_below HO3.out hb4)
        have HW4 := Lib.hid (own_below HW3.out hb4)
        clear HV3 hb4 T3 HO3 HW3
        go_wp2_with fail
        refine (specDirValid_c _ ps _ HV4.out).mono ?_
        rintro e w5 ⟨rfl, hb5⟩
        rw [dvB_false HD.out]
        have HV5 := Lib.hid (HV4.out.below hb5)
        have T5 := T4.trans (hb5.mono T4.size)
        have HO5 := Lib.hid (own_below HO4.out hb5)
        have HW5 := Lib.hid (own_below HW4.out hb5)
        clear HV4 hb5 T4 HO4 HW4
        go_wp2_with fail
        refine (sameListed_c _ _ R _ (Rd.of_own HO5.out) (Rd.of_own HW5.out)).mono ?_
        rintro e w6 ⟨rfl, hb6⟩
        have HV6 := Lib.hid (HV5.out.below hb6)
        have T6 := T5.trans (hb6.mono T5.size)
        have HO6 := Lib.hid (own_below HO5.out hb6)
        have HW6 := Lib.hid (own_below HW5.out hb6)
        clear HV5 hb6 T5 HO5 HW5
        go_wp2
        go_ret
        exact ⟨rfl, T6⟩
end Go.Proofs.Ytonahamnkbjipaa
