/- The walks of the exact laws on ViewGrows and ViewKept. -/
import Derived.Test.YtedcolbbbohbaaaJwY
import Derived.Test.YtedcolbbbohbaaaEqE
namespace Go.Proofs.Ytedcolbbbohbaaa
open Go.RowKit
set_option maxRecDepth 100000 in
set_option maxHeartbeats 1600000 in
theorem lawFnExactViewGrows_c (w : World) (v : Value) (F : Fd) (h : RdF All w v F) (u : Value) (G : Fd) (h2 : RdF All w u G) : Calls Try.prog 3 #[v, u] w fun e w' => e = .returned (.bool true) ∧ Below w.heap.size w w' := by
  have HV := Lib.hid h
  have HU := Lib.hid h2
  have T : Hid (Below w.heap.size w w) := Below.refl _ _
  clear h h2
  go_enter Try.func3, Try.ntmps3
  go_wp2_with fail
  refine (szEntrySS_c _ F 1048576 _ HV.out (by omega) (by omega)).mono ?_
  rintro e w1 ⟨r, rfl, r1, r2, r3, hbd⟩
  have HV := Lib.hid (HV.out.below hbd)
  have HU := Lib.hid (HU.out.below hbd)
  have T := Lib.hid (T.out.trans (hbd.mono T.out.size))
  clear hbd
  have HSF := Lib.hid r3
  clear r3
  by_cases hr : r < 0
  · go_wp2
    go_ret
    exact ⟨rfl, T.out⟩
  · have HSF := Lib.hid (HSF.out (by omega))
    go_wp2_with fail
    refine (szEntrySS_c _ G r _ HU.out (by omega) (by omega)).mono ?_
    rintro e w2 ⟨q, rfl, q1, q2, q3, hbd⟩
    have HV := Lib.hid (HV.out.below hbd)
    have HU := Lib.hid (HU.out.below hbd)
    have T := Lib.hid (T.out.trans (hbd.mono T.out.size))
    clear hbd
    have HSG := Lib.hid q3
    clear q3
    by_cases hq : q < 0
    · go_wp2
      go_ret
      exact ⟨rfl, T.out⟩
    · have HSG := Lib.hid (HSG.out (by omega))
      go_wp2_with fail
      refine (toEntrySS_c _ F _ HV.out HSF.out).mono ?_
      rintro e w3 ⟨vA0, rfl, hA0, hbd⟩
      have HV := Lib.hid (HV.out.below hbd)
      have HU := Lib.hid (HU.out.below hbd)
      have T := Lib.hid (T.out.trans (hbd.mono T.out.size))
      clear hbd
      have A0 := Lib.hid hA0
      clear hA0
      go_wp2_with fail
      refine (toEntrySS_c _ G _ HU.out HSG.out).mono ?_
      rintro e w4 ⟨vA1, rfl, hA1, hbd⟩
      have HV := Lib.hid (HV.out.below hbd)
      have HU := Lib.hid (HU.out.below hbd)
      have A0 := Lib.hid (A0.out.below hbd)
      have T := Lib.hid (T.out.trans (hbd.mono T.out.size))
      clear hbd
      have A1 := Lib.hid hA1
      clear hA1
      go_wp2_with fail
      refine (specViewGrows_c F G _ _ _ A0.out.rd A1.out.rd).mono ?_
      rintro e w5 ⟨rfl, hbd⟩
      have HV := Lib.hid (HV.out.below hbd)
      have HU := Lib.hid (HU.out.below hbd)
      have A0 := Lib.hid (A0.out.below hbd)
      have A1 := Lib.hid (A1.out.below hbd)
      have T := Lib.hid (T.out.trans (hbd.mono T.out.size))
      clear hbd
      go_wp2_with fail
      refine (toEntrySS_c _ F _ HV.out HSF.out).mono ?_
      rintro e w6 ⟨vX0, rfl, hX0, hbd⟩
      have HV := Lib.hid (HV.out.below hbd)
      have HU := Lib.hid (HU.out.below hbd)
      have A0 := Lib.hid (A0.out.below hbd)
      have A1 := Lib.hid (A1.out.below hbd)
      have T := Lib.hid (T.out.trans (hbd.mono T.out.size))
      clear hbd
      have X0 := Lib.hid hX0
      clear hX0
      go_wp2_with fail
      refine (toEntrySS_c _ G _ HU.out HSG.out).mono ?_
      rintro e w7 ⟨vX1, rfl, hX1, hbd⟩
      have HV := Lib.hid (HV.out.below hbd)
      have HU := Lib.hid (HU.out.below hbd)
      have A0 := Lib.hid (A0.out.below hbd)
      have A1 := Lib.hid (A1.out.below hbd)
      have X0 := Lib.hid (X0.out.below hbd)
      have T := Lib.hid (T.out.trans (hbd.mono T.out.size))
      clear hbd
      have X1 := Lib.hid hX1
      clear hX1
      go_wp2_with fail
      refine (viewGrows_c F G _ _ _ X0.out.rd X1.out.rd).mono ?_
      rintro e w8 ⟨rfl, hbd⟩
      have HV := Lib.hid (HV.out.below hbd)
      have HU := Lib.hid (HU.out.below hbd)
      have A0 := Lib.hid (A0.out.below hbd)
      have A1 := Lib.hid (A1.out.below hbd)
      have X0 := Lib.hid (X0.out.below hbd)
      have X1 := Lib.hid (X1.out.below hbd)
      have T := Lib.hid (T.out.trans (hbd.mono T.out.size))
      clear hbd
      obtain ⟨z, hz⟩ : ∃ z, vgrB F G = z := ⟨_, rfl⟩
      rw [hz]
      clear hz
      go_wp2_with fail
      refine (toEntrySS_c _ F _ HV.out HSF.out).mono ?_
      rintro e w9 ⟨vY0, rfl, hY0, hbd⟩
      have HV := Lib.hid (HV.out.below hbd)
      have HU := Lib.hid (HU.out.below hbd)
      have A0 := Lib.hid (A0.out.below hbd)
      have A1 := Lib.hid (A1.out.below hbd)
      have X0 := Lib.hid (X0.out.below hbd)
      have X1 := Lib.hid (X1.out.below hbd)
      have T := Lib.hid (T.out.trans (hbd.mono T.out.size))
      clear hbd
      have Y0 := Lib.hid hY0
      clear hY0
      go_wp2_with fail
      refine (eqEntrySS_c _ _ F _ X0.out.rd Y0.out.rd).mono ?_
      rintro e w10 ⟨rfl, hbd⟩
      have HV := Lib.hid (HV.out.below hbd)
      have HU := Lib.hid (HU.out.below hbd)
      have A0 := Lib.hid (A0.out.below hbd)
      have A1 := Lib.hid (A1.out.below hbd)
      have X0 := Lib.hid (X0.out.below hbd)
      have X1 := Lib.hid (X1.out.below hbd)
      have Y0 := Lib.hid (Y0.out.below hbd)
      have T := Lib.hid (T.out.trans (hbd.mono T.out.size))
      clear hbd
      go_wp2_with fail
      refine (toEntrySS_c _ G _ HU.out HSG.out).mono ?_
      rintro e w11 ⟨vY1, rfl, hY1, hbd⟩
      have HV := Lib.hid (HV.out.below hbd)
      have HU := Lib.hid (HU.out.below hbd)
      have A0 := Lib.hid (A0.out.below hbd)
      have A1 := Lib.hid (A1.out.below hbd)
      have X0 := Lib.hid (X0.out.below hbd)
      have X1 := Lib.hid (X1.out.below hbd)
      have Y0 := Lib.hid (Y0.out.below hbd)
      have T := Lib.hid (T.out.trans (hbd.mono T.out.size))
      clear hbd
      have Y1 := Lib.hid hY1
      clear hY1
      go_wp2_with fail
      refine (eqEntrySS_c _ _ G _ X1.out.rd Y1.out.rd).mono ?_
      rintro e w12 ⟨rfl, hbd⟩
      have HV := Lib.hid (HV.out.below hbd)
      have HU := Lib.hid (HU.out.below hbd)
      have A0 := Lib.hid (A0.out.below hbd)
      have A1 := Lib.hid (A1.out.below hbd)
      have X0 := Lib.hid (X0.out.below hbd)
      have X1 := Lib.hid (X1.out.below hbd)
      have Y0 := Lib.hid (Y0.out.below hbd)
      have Y1 := Lib.hid (Y1.out.below hbd)
      have T := Lib.hid (T.out.trans (hbd.mono T.out.size))
      clear hbd
      cases z
      all_goals
        go_wp2
        go_ret
        exact ⟨rfl, T.out⟩
set_option maxRecDepth 100000 in
set_option maxHeartbeats 1600000 in
theorem lawFnExactViewKept_c (w : World) (v : Value) (F : Fd) (h : RdF All w v F) (u : Value) (G : Fd) (h2 : RdF All w u G) : Calls Try.prog 9 #[v, u] w fun e w' => e = .returned (.bool true) ∧ Below w.heap.size w w' := by
  have HV := Lib.hid h
  have HU := Lib.hid h2
  have T : Hid (Below w.heap.size w w) := Below.refl _ _
  clear h h2
  go_enter Try.func9, Try.ntmps9
  go_wp2_with fail
  refine (szEntrySS_c _ F 1048576 _ HV.out (by omega) (by omega)).mono ?_
  rintro e w1 ⟨r, rfl, r1, r2, r3, hbd⟩
  have HV := Lib.hid (HV.out.below hbd)
  have HU := Lib.hid (HU.out.below hbd)
  have T := Lib.hid (T.out.trans (hbd.mono T.out.size))
  clear hbd
  have HSF := Lib.hid r3
  clear r3
  by_cases hr : r < 0
  · go_wp2
    go_ret
    exact ⟨rfl, T.out⟩
  · have HSF := Lib.hid (HSF.out (by omega))
    go_wp2_with fail
    refine (szEntrySS_c _ G r _ HU.out (by omega) (by omega)).mono ?_
    rintro e w2 ⟨q, rfl, q1, q2, q3, hbd⟩
    have HV := Lib.hid (HV.out.below hbd)
    have HU := Lib.hid (HU.out.below hbd)
    have T := Lib.hid (T.out.trans (hbd.mono T.out.size))
    clear hbd
    have HSG := Lib.hid q3
    clear q3
    by_cases hq : q < 0
    · go_wp2
      go_ret
      exact ⟨rfl, T.out⟩
    · have HSG := Lib.hid (HSG.out (by omega))
      go_wp2_with fail
      refine (toEntrySS_c _ F _ HV.out HSF.out).mono ?_
      rintro e w3 ⟨vA0, rfl, hA0, hbd⟩
      have HV := Lib.hid (HV.out.below hbd)
      have HU := Lib.hid (HU.out.below hbd)
      have T := Lib.hid (T.out.trans (hbd.mono T.out.size))
      clear hbd
      have A0 := Lib.hid hA0
      clear hA0
      go_wp2_with fail
      refine (toEntrySS_c _ G _ HU.out HSG.out).mono ?_
      rintro e w4 ⟨vA1, rfl, hA1, hbd⟩
      have HV := Lib.hid (HV.out.below hbd)
      have HU := Lib.hid (HU.out.below hbd)
      have A0 := Lib.hid (A0.out.below hbd)
      have T := Lib.hid (T.out.trans (hbd.mono T.out.size))
      clear hbd
      have A1 := Lib.hid hA1
      clear hA1
      go_wp2_with fail
      refine (specViewKept_c F G _ _ _ A0.out.rd A1.out.rd).mono ?_
      rintro e w5 ⟨rfl, hbd⟩
      have HV := Lib.hid (HV.out.below hbd)
      have HU := Lib.hid (HU.out.below hbd)
      have A0 := Lib.hid (A0.out.below hbd)
      have A1 := Lib.hid (A1.out.below hbd)
      have T := Lib.hid (T.out.trans (hbd.mono T.out.size))
      clear hbd
      go_wp2_with fail
      refine (toEntrySS_c _ F _ HV.out HSF.out).mono ?_
      rintro e w6 ⟨vX0, rfl, hX0, hbd⟩
      have HV := Lib.hid (HV.out.below hbd)
      have HU := Lib.hid (HU.out.below hbd)
      have A0 := Lib.hid (A0.out.below hbd)
      have A1 := Lib.hid (A1.out.below hbd)
      have T := Lib.hid (T.out.trans (hbd.mono T.out.size))
      clear hbd
      have X0 := Lib.hid hX0
      clear hX0
      go_wp2_with fail
      refine (toEntrySS_c _ G _ HU.out HSG.out).mono ?_
      rintro e w7 ⟨vX1, rfl, hX1, hbd⟩
      have HV := Lib.hid (HV.out.below hbd)
      have HU := Lib.hid (HU.out.below hbd)
      have A0 := Lib.hid (A0.out.below hbd)
      have A1 := Lib.hid (A1.out.below hbd)
      have X0 := Lib.hid (X0.out.below hbd)
      have T := Lib.hid (T.out.trans (hbd.mono T.out.size))
      clear hbd
      have X1 := Lib.hid hX1
      clear hX1
      go_wp2_with fail
      refine (viewKept_c F G _ _ _ X0.out.rd X1.out.rd).mono ?_
      rintro e w8 ⟨rfl, hbd⟩
      have HV := Lib.hid (HV.out.below hbd)
      have HU := Lib.hid (HU.out.below hbd)
      have A0 := Lib.hid (A0.out.below hbd)
      have A1 := Lib.hid (A1.out.below hbd)
      have X0 := Lib.hid (X0.out.below hbd)
      have X1 := Lib.hid (X1.out.below hbd)
      have T := Lib.hid (T.out.trans (hbd.mono T.out.size))
      clear hbd
      obtain ⟨z, hz⟩ : ∃ z, vkv F G = z := ⟨_, rfl⟩
      rw [hz]
      clear hz
      go_wp2_with fail
      refine (toEntrySS_c _ F _ HV.out HSF.out).mono ?_
      rintro e w9 ⟨vY0, rfl, hY0, hbd⟩
      have HV := Lib.hid (HV.out.below hbd)
      have HU := Lib.hid (HU.out.below hbd)
      have A0 := Lib.hid (A0.out.below hbd)
      have A1 := Lib.hid (A1.out.below hbd)
      have X0 := Lib.hid (X0.out.below hbd)
      have X1 := Lib.hid (X1.out.below hbd)
      have T := Lib.hid (T.out.trans (hbd.mono T.out.size))
      clear hbd
      have Y0 := Lib.hid hY0
      clear hY0
      go_wp2_with fail
      refine (eqEntrySS_c _ _ F _ X0.out.rd Y0.out.rd).mono ?_
      rintro e w10 ⟨rfl, hbd⟩
      have HV := Lib.hid (HV.out.below hbd)
      have HU := Lib.hid (HU.out.below hbd)
      have A0 := Lib.hid (A0.out.below hbd)
      have A1 := Lib.hid (A1.out.below hbd)
      have X0 := Lib.hid (X0.out.below hbd)
      have X1 := Lib.hid (X1.out.below hbd)
      have Y0 := Lib.hid (Y0.out.below hbd)
      have T := Lib.hid (T.out.trans (hbd.mono T.out.size))
      clear hbd
      go_wp2_with fail
      refine (toEntrySS_c _ G _ HU.out HSG.out).mono ?_
      rintro e w11 ⟨vY1, rfl, hY1, hbd⟩
      have HV := Lib.hid (HV.out.below hbd)
      have HU := Lib.hid (HU.out.below hbd)
      have A0 := Lib.hid (A0.out.below hbd)
      have A1 := Lib.hid (A1.out.below hbd)
      have X0 := Lib.hid (X0.out.below hbd)
      have X1 := Lib.hid (X1.out.below hbd)
      have Y0 := Lib.hid (Y0.out.below hbd)
      have T := Lib.hid (T.out.trans (hbd.mono T.out.size))
      clear hbd
      have Y1 := Lib.hid hY1
      clear hY1
      go_wp2_with fail
      refine (eqEntrySS_c _ _ G _ X1.out.rd Y1.out.rd).mono ?_
      rintro e w12 ⟨rfl, hbd⟩
      have HV := Lib.hid (HV.out.below hbd)
      have HU := Lib.hid (HU.out.below hbd)
      have A0 := Lib.hid (A0.out.below hbd)
      have A1 := Lib.hid (A1.out.below hbd)
      have X0 := Lib.hid (X0.out.below hbd)
      have X1 := Lib.hid (X1.out.below hbd)
      have Y0 := Lib.hid (Y0.out.below hbd)
      have Y1 := Lib.hid (Y1.out.below hbd)
      have T := Lib.hid (T.out.trans (hbd.mono T.out.size))
      clear hbd
      go_wp2
      go_ret
      exact ⟨rfl, T.out⟩
end Go.Proofs.Ytedcolbbbohbaaa
