/- The walk of the exact law on ViewAt. -/
import Derived.Test.YtedcolbbbohbaaaJxB
import Derived.Test.YtedcolbbbohbaaaEqE
import Derived.Test.YtedcolbbbohbaaaMkG
namespace Go.Proofs.Ytedcolbbbohbaaa
open Go.RowKit
theorem vaL_len (F : Fd) (n : Int) : (vaL F n).length ≤ 10 := by
  by_cases h : VaOk F n
  · rw [vaL_t h]; exact vw_len10 F _
  · rw [vaL_f h]; exact Nat.zero_le _
set_option maxRecDepth 100000 in
set_option maxHeartbeats 3200000 in
theorem lawFnExactViewAt_c (w : World) (v : Value) (F : Fd) (h : RdF All w v F) (n : Int) (_hn : -9223372036854775808 ≤ n ∧ n ≤ 9223372036854775807) : Calls Try.prog 12 #[v, .int .i64 n] w fun e w' => e = .returned (.bool true) ∧ Below w.heap.size w w' := by
  have HV0 := Lib.hid h
  have T : Hid (Below w.heap.size w w) := Below.refl _ _
  clear h
  go_enter Try.func12, Try.ntmps12
  go_wp2_with fail
  refine (szEntrySS_c _ F 1048576 _ (HV0.out.below T.out) (by omega) (by omega)).mono ?_
  rintro e w1 ⟨r, rfl, r1, r2, r3, hbd⟩
  have T := Lib.hid (T.out.trans (hbd.mono T.out.size))
  clear hbd
  have HSF := Lib.hid r3
  clear r3
  by_cases hr : r < 0
  · go_wp2
    go_ret
    exact ⟨rfl, T.out⟩
  · have HSF := Lib.hid (HSF.out (by omega))
    obtain ⟨R, hR⟩ : ∃ R, vaL F n = R := ⟨_, rfl⟩
    have hR24 : R.length ≤ 10 := by rw [← hR]; exact vaL_len F n
    have HR := Lib.hid hR
    clear hR
    obtain ⟨z, hz⟩ : ∃ z, vaB F n = z := ⟨_, rfl⟩
    have hzz : (z != z) = false := bne_self_eq_false z
    have HZ := Lib.hid hz
    clear hz
    go_wp2_with fail
    refine (toEntrySS_c _ F _ (HV0.out.below T.out) HSF.out).mono ?_
    rintro e w2 ⟨vA0, rfl, hA0, hbd⟩
    have T := Lib.hid (T.out.trans (hbd.mono T.out.size))
    clear hbd
    have A0 := Lib.hid hA0
    clear hA0
    go_wp2_with fail
    refine (specViewAt_c F _ n _ A0.out.rd).mono ?_
    rintro e w3 ⟨vW, rfl, hW, hbd⟩
    have A0 := Lib.hid (A0.out.below hbd)
    have T := Lib.hid (T.out.trans (hbd.mono T.out.size))
    clear hbd
    rw [HR.out] at hW
    rw [HZ.out]
    have HW := Lib.hid hW
    clear hW
    have HWB : Hid (∀ b, vW.ownBlock = some b → b < w3.heap.size) := fun b hb => (HW.out.lt b hb).2
    clear A0
    go_wp2_with fail
    refine (toEntrySS_c _ F _ (HV0.out.below T.out) HSF.out).mono ?_
    rintro e w4 ⟨vX0, rfl, hX0, hbd⟩
    have HS1 := Lib.hid hbd.size
    have HS0 := Lib.hid T.out.size
    have HW := Lib.hid (own_below HW.out hbd)
    have T := Lib.hid (T.out.trans (hbd.mono T.out.size))
    clear hbd
    have X0 : Hid (OwnF (fun b => w3.heap.size ≤ b ∧ b < w4.heap.size) w4 vX0 F) := hX0.sub fun b hb h => ⟨h, hb⟩
    clear hX0
    go_wp2_with fail
    refine (viewAt_c F _ n _ X0.out.rd).mono ?_
    rintro e w5 ⟨vG, rfl, hG, hbd⟩
    have HW := Lib.hid (own_below HW.out hbd)
    have X0 := Lib.hid (X0.out.below hbd)
    have T := Lib.hid (T.out.trans (hbd.mono T.out.size))
    clear hbd
    rw [HR.out] at hG
    rw [HZ.out]
    have HG := Lib.hid hG
    clear hG
    have HGB : Hid (∀ b, vG.ownBlock = some b → w4.heap.size ≤ b) := fun b hb => (HG.out.lt b hb).1
    go_wp2_with fail
    refine (eqPairS_c _ _ R _ (Rd.of_own HG.out) (Rd.of_own HW.out)).mono ?_
    rintro e w6 ⟨rfl, hbd⟩
    have HW := Lib.hid (own_below HW.out hbd)
    have X0 := Lib.hid (X0.out.below hbd)
    have HG := Lib.hid (own_below HG.out hbd)
    have T := Lib.hid (T.out.trans (hbd.mono T.out.size))
    clear hbd
    go_wp2_with fail
    refine (toEntrySS_c _ F _ (HV0.out.below T.out) HSF.out).mono ?_
    rintro e w7 ⟨vY0, rfl, hY0, hbd⟩
    have HW := Lib.hid (own_below HW.out hbd)
    have X0 := Lib.hid (X0.out.below hbd)
    have HG := Lib.hid (own_below HG.out hbd)
    have T := Lib.hid (T.out.trans (hbd.mono T.out.size))
    clear hbd
    have Y0 := Lib.hid hY0
    clear hY0
    go_wp2_with fail
    refine (eqEntrySS_c _ _ F _ X0.out.rd Y0.out.rd).mono ?_
    rintro e w8 ⟨rfl, hbd⟩
    have HW := Lib.hid (own_below HW.out hbd)
    have X0 := Lib.hid (X0.out.below hbd)
    have HG := Lib.hid (own_below HG.out hbd)
    have T := Lib.hid (T.out.trans (hbd.mono T.out.size))
    clear hbd
    clear Y0
    go_wp2_with fail
    refine (markEntrySS_c _ F _ X0.out HSF.out).mono ?_
    rintro e w9 ⟨k, rfl, k0, hc⟩
    have HW := Lib.hid (own_chg HW.out hc (fun b hb e => by have h1 := HWB.out b hb; have h2 := e.1; omega))
    have HG := Lib.hid (own_chg HG.out hc (fun b hb e => by have h1 := HGB.out b hb; have h2 := e.2; omega))
    have T := Lib.hid (T.out.trans (hc.below T.out.size (fun b e => Nat.le_trans HS0.out e.1)))
    clear hc X0
    go_wp2_with fail
    refine (eqPairS_c _ _ R _ (Rd.of_own HG.out) (Rd.of_own HW.out)).mono ?_
    rintro e w10 ⟨rfl, hbd⟩
    have HW := Lib.hid (own_below HW.out hbd)
    have HG := Lib.hid (own_below HG.out hbd)
    have T := Lib.hid (T.out.trans (hbd.mono T.out.size))
    clear hbd
    go_wp2_with fail
    refine (markPairS_c _ R.length (enc2 R) _ 1 _ HG.out (by omega) (by omega) (by omega)).mono ?_
    rintro e w11 ⟨rfl, hG, hg⟩
    have HW := Lib.hid (own_chg HW.out (Chg.of_grown hg) (fun b hb e => by have h1 := HWB.out b hb; have h2 := HGB.out b e; have h3 := HS1.out; omega))
    have T := Lib.hid (T.out.trans ((Chg.of_grown hg).below T.out.size (fun b e => by have h2 := HGB.out b e; have h3 := HS1.out; have h4 := HS0.out; omega)))
    have HG := Lib.hid hG
    clear hG hg
    go_wp2_with fail
    refine (heldPairS_c _ R.length 1 _ (Rd.of_own HG.out) (by omega) (by omega) (by omega)).mono ?_
    rintro e w12 ⟨rfl, rfl⟩
    go_wp2_with fail
    refine (toEntrySS_c _ F _ (HV0.out.below T.out) HSF.out).mono ?_
    rintro e w13 ⟨vZ0, rfl, hZ0, hbd⟩
    have HW := Lib.hid (own_below HW.out hbd)
    have HG := Lib.hid (own_below HG.out hbd)
    have T := Lib.hid (T.out.trans (hbd.mono T.out.size))
    clear hbd
    have Z0 := Lib.hid hZ0
    clear hZ0
    go_wp2_with fail
    refine (viewAt_c F _ n _ Z0.out.rd).mono ?_
    rintro e w14 ⟨vH, rfl, hH, hbd⟩
    have HW := Lib.hid (own_below HW.out hbd)
    have HG := Lib.hid (own_below HG.out hbd)
    have Z0 := Lib.hid (Z0.out.below hbd)
    have T := Lib.hid (T.out.trans (hbd.mono T.out.size))
    clear hbd
    rw [HR.out] at hH
    rw [HZ.out]
    have HH := Lib.hid hH
    clear hH
    clear Z0
    go_wp2_with fail
    refine (eqPairS_c _ _ R _ (Rd.of_own HH.out) (Rd.of_own HW.out)).mono ?_
    rintro e w15 ⟨rfl, hbd⟩
    have HW := Lib.hid (own_below HW.out hbd)
    have HG := Lib.hid (own_below HG.out hbd)
    have HH := Lib.hid (own_below HH.out hbd)
    have T := Lib.hid (T.out.trans (hbd.mono T.out.size))
    clear hbd
    go_wp2_with fail
    refine (heldPairS_c _ R.length 1 _ (Rd.of_own HG.out) (by omega) (by omega) (by omega)).mono ?_
    rintro e w16 ⟨rfl, rfl⟩
    go_wp2
    go_ret
    exact ⟨rfl, T.out⟩
end Go.Proofs.Ytedcolbbbohbaaa
