/- The walk of the law FnExactDirectoryPut. -/
import Derived.Test.YtonahamnkbjipaaPutI
import Derived.Test.YtonahamnkbjipaaMk
namespace Go.Proofs.Ytonahamnkbjipaa
open Go.RowKit
set_option maxHeartbeats 3200000 in
theorem lawFnExactDirectoryPut_c (w : World) (v : Value) (xs : List P2) (h : Rd 2 w v xs.length (enc2 xs)) (node : Int) (_hnode : -9223372036854775808 ≤ node ∧ node ≤ 9223372036854775807) (now : Int) (_hnow : -9223372036854775808 ≤ now ∧ now ≤ 9223372036854775807) :
    Calls Try.prog 6 #[v, .int .i64 node, .int .i64 now] w fun e w' => e = .returned (.bool true) ∧ Below w.heap.size w w' := by
  have H := Lib.hid h
  clear h
  go_enter Try.func6, Try.ntmps6
  go_wp2_with fail
  refine (szListedS_c _ _ _ _ H.out).mono ?_
  rintro e w0 ⟨rfl, rfl⟩
  by_cases hn : xs.length ≤ 1048576
  · rw [if_pos hn]
    obtain ⟨R, b, hR⟩ : ∃ R b, dput xs node now = (R, b) := ⟨_, _, rfl⟩
    have HR := Lib.hid hR
    have hRn : R.length ≤ 1048577 := by have := dput_len xs node now; rw [hR] at this; simp only [] at this; omega
    clear hR
    cases b
    all_goals
      have Ba0 : w.heap.size ≤ w.heap.size := Nat.le_refl _
      go_wp2_with fail
      refine (toListedS_c _ _ _ H.out hn).mono ?_
      rintro e w1 ⟨va0, rfl, a0, hb1⟩
      have T1 := hb1
      clear hb1
      have Bw0 : w.heap.size ≤ _ := T1.size
      go_wp2_with fail
      refine (specPut_c _ xs node now _ (Rd.of_own a0) (Sl.of_own a0)).mono ?_
      rintro e w2 ⟨vw0, rfl, w0, hb2⟩
      rw [HR.out] at w0
      rw [HR.out]
      simp only [] at w0
      have Aa0_w0 := own_apart a0 w0 (Nat.le_refl _)
      have a0 := own_below a0 hb2
      have T2 := T1.trans (hb2.mono T1.size)
      clear T1
      clear hb2
      have Bx0 : w.heap.size ≤ _ := T2.size
      go_wp2_with fail
      refine (toListedS_c _ _ _ (H.out.below T2) hn).mono ?_
      rintro e w3 ⟨vx0, rfl, x0, hb3⟩
      have Aa0_x0 := own_apart a0 x0 (Nat.le_refl _)
      have Aw0_x0 := own_apart w0 x0 (Nat.le_refl _)
      have a0 := own_below a0 hb3
      have w0 := own_below w0 hb3
      have T3 := T2.trans (hb3.mono T2.size)
      clear T2
      clear hb3
      have Bg0 : w.heap.size ≤ _ := T3.size
      go_wp2_with fail
      refine (dirPut_c _ xs node now _ (Rd.of_own x0) (Sl.of_own x0)).mono ?_
      rintro e w4 ⟨vg0, rfl, g0, hb4⟩
      rw [HR.out] at g0
      rw [HR.out]
      simp only [] at g0
      have Aa0_g0 := own_apart a0 g0 (Nat.le_refl _)
      have Aw0_g0 := own_apart w0 g0 (Nat.le_refl _)
      have Ax0_g0 := own_apart x0 g0 (Nat.le_refl _)
      have a0 := own_below a0 hb4
      have w0 := own_below w0 hb4
      have x0 := own_below x0 hb4
      have T4 := T3.trans (hb4.mono T3.size)
      clear T3
      clear hb4
      go_wp2_with fail
      refine (eqListedS_c _ _ R _ (Rd.of_own g0) (Rd.of_own w0)).mono ?_
      rintro e w5 ⟨rfl, hb5⟩
      have a0 := own_below a0 hb5
      have w0 := own_below w0 hb5
      have x0 := own_below x0 hb5
      have g0 := own_below g0 hb5
      have T5 := T4.trans (hb5.mono T4.size)
      clear T4
      clear hb5
      have Bx1 : w.heap.size ≤ _ := T5.size
      go_wp2_with fail
      refine (toListedS_c _ _ _ (H.out.below T5) hn).mono ?_
      rintro e w6 ⟨vx1, rfl, x1, hb6⟩
      have Aa0_x1 := own_apart a0 x1 (Nat.le_refl _)
      have Aw0_x1 := own_apart w0 x1 (Nat.le_refl _)
      have Ax0_x1 := own_apart x0 x1 (Nat.le_refl _)
      have Ag0_x1 := own_apart g0 x1 (Nat.le_refl _)
      have a0 := own_below a0 hb6
      have w0 := own_below w0 hb6
      have x0 := own_below x0 hb6
      have g0 := own_below g0 hb6
      have T6 := T5.trans (hb6.mono T5.size)
      clear T5
      clear hb6
      go_wp2_with fail
      refine (eqListedS_c _ _ xs _ (Rd.of_own x0) (Rd.of_own x1)).mono ?_
      rintro e w7 ⟨rfl, hb7⟩
      have a0 := own_below a0 hb7
      have w0 := own_below w0 hb7
      have x0 := own_below x0 hb7
      have g0 := own_below g0 hb7
      have x1 := own_below x1 hb7
      have T7 := T6.trans (hb7.mono T6.size)
      clear T6
      clear hb7
      go_wp2_with fail
      refine (markListedS_c _ _ _ _ 1 _ x0 (by omega) (by omega) (by omega)).mono ?_
      rintro e w8 ⟨rfl, x0', hg8⟩
      have a0 := a0.kept hg8 Aa0_x0.1
      have w0 := w0.kept hg8 Aw0_x0.1
      have g0 := g0.kept hg8 Ax0_g0.2
      have x1 := x1.kept hg8 Ax0_x1.2
      have T8 := T7.grown hg8 T7.size (fun k hk => Nat.le_trans Bx0 (x0.lt k hk).1)
      clear T7 x0 hg8
      have x0 := x0'
      clear x0'
      go_wp2_with fail
      refine (eqListedS_c _ _ R _ (Rd.of_own g0) (Rd.of_own w0)).mono ?_
      rintro e w9 ⟨rfl, hb9⟩
      have a0 := own_below a0 hb9
      have w0 := own_below w0 hb9
      have x0 := own_below x0 hb9
      have g0 := own_below g0 hb9
      have x1 := own_below x1 hb9
      have T9 := T8.trans (hb9.mono T8.size)
      clear T8
      clear hb9
      go_wp2_with fail
      refine (markListedS_c _ _ _ _ 1 _ g0 (by omega) (by omega) (by omega)).mono ?_
      rintro e w10 ⟨rfl, g0', hg10⟩
      have a0 := a0.kept hg10 Aa0_g0.1
      have w0 := w0.kept hg10 Aw0_g0.1
      have x0 := x0.kept hg10 Ax0_g0.1
      have x1 := x1.kept hg10 Ag0_x1.2
      have T10 := T9.grown hg10 T9.size (fun k hk => Nat.le_trans Bg0 (g0.lt k hk).1)
      clear T9 g0 hg10
      have g0 := g0'
      clear g0'
      go_wp2_with fail
      refine (heldListedS_c _ _ 1 _ (Rd.of_own g0) (by omega) (by omega) (by omega)).mono ?_
      rintro e _ ⟨rfl, rfl⟩
      have Bx2 : w.heap.size ≤ _ := T10.size
      go_wp2_with fail
      refine (toListedS_c _ _ _ (H.out.below T10) hn).mono ?_
      rintro e w11 ⟨vx2, rfl, x2, hb11⟩
      have Aa0_x2 := own_apart a0 x2 (Nat.le_refl _)
      have Aw0_x2 := own_apart w0 x2 (Nat.le_refl _)
      have Ax0_x2 := own_apart x0 x2 (Nat.le_refl _)
      have Ag0_x2 := own_apart g0 x2 (Nat.le_refl _)
      have Ax1_x2 := own_apart x1 x2 (Nat.le_refl _)
      have a0 := own_below a0 hb11
      have w0 := own_below w0 hb11
      have x0 := own_below x0 hb11
      have g0 := own_below g0 hb11
      have x1 := own_below x1 hb11
      have T11 := T10.trans (hb11.mono T10.size)
      clear T10
      clear hb11
      have Bh0 : w.heap.size ≤ _ := T11.size
      go_wp2_with fail
      refine (dirPut_c _ xs node now _ (Rd.of_own x2) (Sl.of_own x2)).mono ?_
      rintro e w12 ⟨vh0, rfl, h0, hb12⟩
      rw [HR.out] at h0
      rw [HR.out]
      simp only [] at h0
      have Aa0_h0 := own_apart a0 h0 (Nat.le_refl _)
      have Aw0_h0 := own_apart w0 h0 (Nat.le_refl _)
      have Ax0_h0 := own_apart x0 h0 (Nat.le_refl _)
      have Ag0_h0 := own_apart g0 h0 (Nat.le_refl _)
      have Ax1_h0 := own_apart x1 h0 (Nat.le_refl _)
      have Ax2_h0 := own_apart x2 h0 (Nat.le_refl _)
      have a0 := own_below a0 hb12
      have w0 := own_below w0 hb12
      have x0 := own_below x0 hb12
      have g0 := own_below g0 hb12
      have x1 := own_below x1 hb12
      have x2 := own_below x2 hb12
      have T12 := T11.trans (hb12.mono T11.size)
      clear T11
      clear hb12
      go_wp2_with fail
      refine (eqListedS_c _ _ R _ (Rd.of_own h0) (Rd.of_own w0)).mono ?_
      rintro e w13 ⟨rfl, hb13⟩
      have a0 := own_below a0 hb13
      have w0 := own_below w0 hb13
      have x0 := own_below x0 hb13
      have g0 := own_below g0 hb13
      have x1 := own_below x1 hb13
      have x2 := own_below x2 hb13
      have h0 := own_below h0 hb13
      have T13 := T12.trans (hb13.mono T12.size)
      clear T12
      clear hb13
      go_wp2_with fail
      refine (heldListedS_c _ _ 1 _ (Rd.of_own g0) (by omega) (by omega) (by omega)).mono ?_
      rintro e _ ⟨rfl, rfl⟩
      go_wp2
      go_ret
      exact ⟨rfl, T13⟩
  · rw [if_neg hn]
    go_wp2
    go_ret
    exact ⟨rfl, Below.refl _ _⟩
end Go.Proofs.Ytonahamnkbjipaa
