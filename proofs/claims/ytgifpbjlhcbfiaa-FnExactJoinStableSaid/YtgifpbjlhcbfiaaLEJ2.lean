/- The walk of the law FnExactJoinStable. -/
import Derived.Test.YtgifpbjlhcbfiaaJwJ
import Derived.Test.YtgifpbjlhcbfiaaEqE
namespace Go.Proofs.Ytgifpbjlhcbfiaa
open Go.RowKit
set_option maxHeartbeats 800000 in
theorem lawFnExactJoinStable_c (w : World) (v : Value) (F : Fd) (h : RdF All w v F) : Calls Try.prog 14 #[v] w fun e w' => e = .returned (.bool true) ∧ Below w.heap.size w w' := by
  have H := Lib.hid h
  clear h
  go_enter Try.func14, Try.ntmps14
  go_wp2_with fail
  refine (szEntrySS_c _ F 1048576 _ H.out (by omega) (by omega)).mono ?_
  rintro e w0 ⟨r, rfl, r1, r2, r3, hb0⟩
  have HS := Lib.hid r3
  have T0 := Lib.hid hb0
  clear r3 hb0
  by_cases hr : r < 0
  · go_wp2
    go_ret
    exact ⟨rfl, T0.out⟩
  · have HSm := Lib.hid (HS.out (by omega))
    go_wp2_with fail
    refine (toEntrySS_c _ F _ (H.out.below T0.out) HSm.out).mono ?_
    rintro e w1 ⟨va, rfl, ha, hb1⟩
    have A1 := Lib.hid ha
    have T1 := Lib.hid (T0.out.trans (hb1.mono T0.out.size))
    clear ha hb1 T0
    go_wp2_with fail
    refine (specJoinStable_c F _ _ A1.out.rd).mono ?_
    rintro e w2 ⟨rfl, hb2⟩
    have T2 := Lib.hid (T1.out.trans (hb2.mono T1.out.size))
    clear hb2 T1 A1
    go_wp2_with fail
    refine (toEntrySS_c _ F _ (H.out.below T2.out) HSm.out).mono ?_
    rintro e w3 ⟨vx, rfl, hx, hb3⟩
    have X3 := Lib.hid hx
    have T3 := Lib.hid (T2.out.trans (hb3.mono T2.out.size))
    clear hx hb3 T2
    go_wp2_with fail
    refine (joinStable_c F _ _ X3.out.rd).mono ?_
    rintro e w4 ⟨rfl, hb4⟩
    have X4 := Lib.hid (X3.out.below hb4)
    have T4 := Lib.hid (T3.out.trans (hb4.mono T3.out.size))
    clear hb4 T3 X3
    obtain ⟨q, hq⟩ : ∃ q, jsv F = q := ⟨_, rfl⟩
    rw [hq]
    clear hq
    go_wp2_with fail
    refine (toEntrySS_c _ F _ (H.out.below T4.out) HSm.out).mono ?_
    rintro e w5 ⟨vy, rfl, hy, hb5⟩
    have X5 := Lib.hid (X4.out.below hb5)
    have Y5 := Lib.hid hy
    have T5 := Lib.hid (T4.out.trans (hb5.mono T4.out.size))
    clear hy hb5 T4 X4
    go_wp2_with fail
    refine (eqEntrySS_c _ _ F _ X5.out.rd Y5.out.rd).mono ?_
    rintro e w6 ⟨rfl, hb6⟩
    have T6 := Lib.hid (T5.out.trans (hb6.mono T5.out.size))
    clear hb6
    go_wp2
    go_ret
    exact ⟨rfl, T6.out⟩
end Go.Proofs.Ytgifpbjlhcbfiaa
