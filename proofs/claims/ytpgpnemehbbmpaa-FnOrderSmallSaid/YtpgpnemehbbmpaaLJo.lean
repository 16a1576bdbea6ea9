/- The walks of the laws on the order. -/
import Derived.Test.YtpgpnemehbbmpaaLoP
import Derived.Test.YtpgpnemehbbmpaaJwP
import Derived.Test.YtpgpnemehbbmpaaSub
namespace Go.Proofs.Ytpgpnemehbbmpaa
open Go.RowKit
attribute [local go_sem ↓] Go.wp_at_zero Go.wp_at_succ
set_option maxRecDepth 100000 in
set_option maxHeartbeats 6400000 in
theorem lawFnOrderSees_c (w : World) (v : Value) (n : Nat) (h : RdB w v n) : Calls Try.prog 11 #[v] w fun e w' => e = .returned (.bool true) ∧ Below w.heap.size w w' := by
  have hB := h
  obtain ⟨a, cap, rfl, h1, h2, -⟩ := h
  unfold maxLen at h2
  by_cases hn : 1048576 < n
  · go_enter Try.func11, Try.ntmps11
    go_wp2
    go_ret
    exact ⟨rfl, Below.refl _ _⟩
  · go_enter Try.func11, Try.ntmps11
    go_wp2_with fail
    refine (drawJoinOrder_c _ n _ hB).mono ?_
    rintro e w1 ⟨v, F, rfl, hF, hbd⟩
    have HV := Lib.hid hF
    have T := Lib.hid hbd
    clear hF hbd
    go_wp2_with fail
    refine (joinOrder_o F _ _ HV.out).mono ?_
    rintro e w2 ⟨ao, ON, Oc, rfl, Ob, O1, O2, hO, hbd⟩
    unfold maxLen at O2
    have HV := Lib.hid (HV.out.below hbd)
    have T := Lib.hid (T.out.trans (hbd.mono T.out.size))
    clear hbd
    have HO := Lib.hid hO
    clear hO
    go_wp2_with fail
    refine (specJoinOrder_o F _ _ HV.out).mono ?_
    rintro e w3 ⟨aw, WN, Wc, rfl, Wb, W1, W2, hW, hbd⟩
    unfold maxLen at W2
    have HV := Lib.hid (HV.out.below hbd)
    have HO := Lib.hid (HO.out.below hbd)
    have T := Lib.hid (T.out.trans (hbd.mono T.out.size))
    clear hbd
    have HW := Lib.hid hW
    clear hW
    go_wp2_with fail
    refine (sameRefs_o _ HO.out HW.out).mono ?_
    rintro e w4 ⟨rfl, hbd⟩
    have HV := Lib.hid (HV.out.below hbd)
    have HO := Lib.hid (HO.out.below hbd)
    have HW := Lib.hid (HW.out.below hbd)
    have T := Lib.hid (T.out.trans (hbd.mono T.out.size))
    clear hbd
    go_wp2_with fail
    refine (specJoinValid_c F _ _ HV.out).mono ?_
    rintro e w5 ⟨rfl, hbd⟩
    have HV := Lib.hid (HV.out.below hbd)
    have HO := Lib.hid (HO.out.below hbd)
    have HW := Lib.hid (HW.out.below hbd)
    have T := Lib.hid (T.out.trans (hbd.mono T.out.size))
    clear hbd
    by_cases hj : JV F
    · rw [jvB_t hj]
      have HJ := Lib.hid hj
      have hN := Lib.hid (HO.out.tot hj)
      clear hj
      obtain ⟨wo, hwo⟩ : ∃ wo : World, wo = w5 := ⟨_, rfl⟩
      go_wp2
      go_loopw [6] (fun i' wr => ∃ i : Nat, i ≤ ON ∧ i' = .int .i64 i ∧ Hid (Below w5.heap.size w5 wr)) (fun i' _ => ON - (intOf i').toNat)
      case atStart => exact ⟨0, Nat.zero_le _, rfl, Below.refl _ _⟩
      case round =>
        obtain ⟨i, hi, rfl, HBi⟩ := hrel
        obtain ⟨wi, hwi⟩ : ∃ wi : World, wi = wr := ⟨_, rfl⟩
        by_cases hlt : i < ON
        · go_wp2
          go_loopw [7] (fun k' wr => ∃ k : Nat, i < k ∧ k ≤ ON ∧ k' = .int .i64 k ∧ Hid (Below wi.heap.size wi wr)) (fun k' _ => ON - (intOf k').toNat)
          case atStart => exact ⟨i + 1, by omega, by omega, by go_num, by subst hwi; exact Below.refl _ _⟩
          case round =>
            subst hwi
            obtain ⟨k, hik, hk, rfl, HBk⟩ := hrel
            have HBr := Lib.hid (HBi.out.trans (HBk.out.mono HBi.out.size))
            by_cases hkt : k < ON
            · obtain ⟨g, o, x, y, rfl, d1, d2, HX, x3, yL⟩ := (HO.out.below HBr.out).at HJ.out (k := i) (by omega)
              obtain ⟨gB, oB, x', y', eB, dB1, dB2, HXB, x3', yL'⟩ := (HO.out.below HBr.out).at HJ.out (k := k) (by omega)
              simp only [Option.some.injEq, Addr.mk.injEq, and_true] at eB
              obtain ⟨rfl, rfl⟩ := eB
              have HE : Hid (jsB F x y x' y' = false) := by
                have h1 := order_sees HJ.out hik (by rw [← hN.out]; exact hkt)
                rw [HX.out.1, HX.out.2, HXB.out.1, HXB.out.2] at h1
                exact h1
              have q1 := fun (s : Sub wr) => s.cell d1
              have q2 := fun (s : Sub wr) => s.cell d2
              have q3 := fun (s : Sub wr) => s.cell dB1
              have q4 := fun (s : Sub wr) => s.cell dB2
              clear d1 d2 dB1 dB2
              go_wp2
              refine wp_region_sub (by kernel_rfl) (by kernel_rfl) ?_
              repeat (go_big_quiet_step (exact Calls.sub (v := .bool false) (fun w hb => by have := joinSees_c F _ x y x' y' w (HV.out.below (HBr.out.trans (hb.mono HBr.out.size))); rwa [HE.out] at this)))
              refine wpQuiet_nil ?_
              rintro _ ⟨xs, rfl⟩
              have HB7 := Lib.hid (HBk.out.trans (xs.b.mono HBk.out.size))
              go_wp2
              go_roundw
              case rel => exact ⟨k + 1, by omega, by omega, by go_num, HB7⟩
              case measure => simp [intOf]; omega
            · go_wp2
              go_roundw
              case rel => exact ⟨i + 1, by omega, by go_num, HBr⟩
              case measure => simp [intOf]; omega
        · go_wp2
          go_ret
          exact ⟨rfl, T.out.trans (HBi.out.mono T.out.size)⟩
    · rw [jvB_f hj]
      clear hj
      go_wp2_with fail
      refine (sameRefs_o _ HO.out HW.out).mono ?_
      rintro e w6 ⟨rfl, hbd⟩
      have HV := Lib.hid (HV.out.below hbd)
      have HO := Lib.hid (HO.out.below hbd)
      have HW := Lib.hid (HW.out.below hbd)
      have T := Lib.hid (T.out.trans (hbd.mono T.out.size))
      clear hbd
      go_wp2
      go_ret
      exact ⟨rfl, T.out⟩
set_option maxRecDepth 100000 in
set_option maxHeartbeats 6400000 in
theorem lawFnOrderSmall_c (w : World) (v : Value) (n : Nat) (h : RdB w v n) : Calls Try.prog 12 #[v] w fun e w' => e = .returned (.bool true) ∧ Below w.heap.size w w' := by
  have hB := h
  obtain ⟨a, cap, rfl, h1, h2, -⟩ := h
  unfold maxLen at h2
  by_cases hn : 1048576 < n
  · go_enter Try.func12, Try.ntmps12
    go_wp2
    go_ret
    exact ⟨rfl, Below.refl _ _⟩
  · go_enter Try.func12, Try.ntmps12
    go_wp2_with fail
    refine (drawJoinOrder_c _ n _ hB).mono ?_
    rintro e w1 ⟨v, F, rfl, hF, hbd⟩
    have HV := Lib.hid hF
    have T := Lib.hid hbd
    clear hF hbd
    go_wp2_with fail
    refine (joinOrder_o F _ _ HV.out).mono ?_
    rintro e w2 ⟨ao, ON, Oc, rfl, Ob, O1, O2, hO, hbd⟩
    unfold maxLen at O2
    have HV := Lib.hid (HV.out.below hbd)
    have T := Lib.hid (T.out.trans (hbd.mono T.out.size))
    clear hbd
    have HO := Lib.hid hO
    clear hO
    go_wp2_with fail
    refine (specJoinOrder_o F _ _ HV.out).mono ?_
    rintro e w3 ⟨aw, WN, Wc, rfl, Wb, W1, W2, hW, hbd⟩
    unfold maxLen at W2
    have HV := Lib.hid (HV.out.below hbd)
    have HO := Lib.hid (HO.out.below hbd)
    have T := Lib.hid (T.out.trans (hbd.mono T.out.size))
    clear hbd
    have HW := Lib.hid hW
    clear hW
    go_wp2_with fail
    refine (sameRefs_o _ HO.out HW.out).mono ?_
    rintro e w4 ⟨rfl, hbd⟩
    have HV := Lib.hid (HV.out.below hbd)
    have HO := Lib.hid (HO.out.below hbd)
    have HW := Lib.hid (HW.out.below hbd)
    have T := Lib.hid (T.out.trans (hbd.mono T.out.size))
    clear hbd
    go_wp2_with fail
    refine (specJoinValid_c F _ _ HV.out).mono ?_
    rintro e w5 ⟨rfl, hbd⟩
    have HV := Lib.hid (HV.out.below hbd)
    have HO := Lib.hid (HO.out.below hbd)
    have HW := Lib.hid (HW.out.below hbd)
    have T := Lib.hid (T.out.trans (hbd.mono T.out.size))
    clear hbd
    by_cases hj : JV F
    · rw [jvB_t hj]
      have HJ := Lib.hid hj
      have hN := Lib.hid (HO.out.tot hj)
      clear hj
      go_wp2
      go_loopw [6] (fun i' wr => ∃ i : Nat, 1 ≤ i ∧ (i ≤ ON ∨ i = 1) ∧ i' = .int .i64 i ∧ Hid (Below w5.heap.size w5 wr)) (fun i' _ => ON - (intOf i').toNat)
      case atStart => exact ⟨1, by omega, .inr rfl, rfl, Below.refl _ _⟩
      case round =>
        obtain ⟨i, hi1, hi, rfl, HBr⟩ := hrel
        by_cases hlt : i < ON
        · obtain ⟨j, rfl⟩ : ∃ j, i = j + 1 := ⟨i - 1, by omega⟩
          have hwj : IntKind.i64.wrap (((j + 1 : Nat) : Int) - 1) = (j : Int) := by rw [IntKind.wrap_i64]; omega
          obtain ⟨g, o, x, y, rfl, d1, d2, HX, x3, yL⟩ := (HO.out.below HBr.out).at HJ.out (k := j) (by omega)
          obtain ⟨gB, oB, x', y', eB, dB1, dB2, HXB, x3', yL'⟩ := (HO.out.below HBr.out).at HJ.out (k := j + 1) (by omega)
          simp only [Option.some.injEq, Addr.mk.injEq, and_true] at eB
          obtain ⟨rfl, rfl⟩ := eB
          have HE : Hid (jsB F x' y' x y = false → x < x') := fun hh => by
            have h1 := order_small HJ.out (k := j) (by rw [← hN.out]; exact hlt)
            rw [HX.out.1, HX.out.2, HXB.out.1, HXB.out.2] at h1
            exact h1 hh
          have q1 := fun (s : Sub wr) => s.cell d1
          have q2 := fun (s : Sub wr) => s.cell d2
          have q3 := fun (s : Sub wr) => s.cell dB1
          have q4 := fun (s : Sub wr) => s.cell dB2
          obtain ⟨q, hq⟩ : ∃ q, jsB F x' y' x y = q := ⟨_, rfl⟩
          have HQ := Lib.hid hq
          rw [hq] at HE
          clear hq d1 d2 dB1 dB2
          cases q with
          | true =>
            go_wp2
            refine wp_region_sub (by kernel_rfl) (by kernel_rfl) ?_
            repeat (go_big_quiet_step (exact Calls.sub (v := .bool true) (fun w hb => by have := joinSees_c F _ x' y' x y w (HV.out.below (HBr.out.trans (hb.mono HBr.out.size))); rwa [HQ.out] at this)))
            refine wpQuiet_nil ?_
            rintro _ ⟨xs, rfl⟩
            have HX2 := Lib.hid (HBr.out.trans (xs.b.mono HBr.out.size))
            go_wp2
            go_roundw
            case rel => exact ⟨j + 2, by omega, by omega, by go_num, HX2⟩
            case measure => simp [intOf]; omega
          | false =>
            have hlt' : ¬ ((x' : Int) ≤ (x : Int)) := by have := HE.out rfl; omega
            go_wp2
            refine wp_region_sub (by kernel_rfl) (by kernel_rfl) ?_
            repeat (go_big_quiet_step (exact Calls.sub (v := .bool false) (fun w hb => by have := joinSees_c F _ x' y' x y w (HV.out.below (HBr.out.trans (hb.mono HBr.out.size))); rwa [HQ.out] at this)))
            refine wpQuiet_nil ?_
            rintro _ ⟨xs, rfl⟩
            have HX2 := Lib.hid (HBr.out.trans (xs.b.mono HBr.out.size))
            go_wp2
            go_roundw
            case rel => exact ⟨j + 2, by omega, by omega, by go_num, HX2⟩
            case measure => simp [intOf]; omega
        · go_wp2
          go_ret
          exact ⟨rfl, T.out.trans (HBr.out.mono T.out.size)⟩
    · rw [jvB_f hj]
      clear hj
      go_wp2_with fail
      refine (sameRefs_o _ HO.out HW.out).mono ?_
      rintro e w6 ⟨rfl, hbd⟩
      have HV := Lib.hid (HV.out.below hbd)
      have HO := Lib.hid (HO.out.below hbd)
      have HW := Lib.hid (HW.out.below hbd)
      have T := Lib.hid (T.out.trans (hbd.mono T.out.size))
      clear hbd
      go_wp2
      go_ret
      exact ⟨rfl, T.out⟩
end Go.Proofs.Ytpgpnemehbbmpaa
