/- The walks of more laws on the order. -/
import Derived.Test.YtpgpnemehbbmpaaLoP
import Derived.Test.YtpgpnemehbbmpaaJwP
import Derived.Test.YtpgpnemehbbmpaaSub
import Derived.StillTailTactics
namespace Go.Proofs.Ytpgpnemehbbmpaa
open Go.RowKit
attribute [local go_sem ↓] Go.wp_at_zero Go.wp_at_succ
theorem shape3 {S : Nat → Prop} {w : World} {v : Value} {F : Fd} (h : RdF S w v F) : ∃ a m cap, v = .slice a m cap ∧ m = F.length ∧ m ≤ cap ∧ cap ≤ maxLen := by
  obtain ⟨a, cap, rfl, h1, h2⟩ := h.shape
  exact ⟨a, _, cap, rfl, rfl, h1, h2⟩
def pre (F : Fd) : Nat → Nat
  | 0 => 0
  | w + 1 => pre F w + ln F w
theorem pre_tot (F : Fd) : pre F 3 = tot F := by simp only [pre, tot]; omega
theorem pre_le {F : Fd} (h : ∀ u, u < 3 → ln F u ≤ 8) : ∀ v, v ≤ 3 → pre F v ≤ 8 * v := by
  intro v
  induction v with
  | zero => intro _; exact Nat.le_refl _
  | succ v ih => intro hv; have := ih (by omega); have := h v (by omega); simp only [pre]; omega
set_option maxHeartbeats 1600000 in
theorem placeOf_c {F : Fd} {a : Option Addr} {N cap : Nat} (v i : Nat) (w : World) (h : Ord F w a N cap) (hj : JV F) (hN : N ≤ 24) (hv : v < 3) (hi : i < ln F v) :
    Calls Try.prog 31 #[.slice a N cap, .agg #[.int .i64 v, .int .i64 i]] w fun e w' => ∃ r : Int, e = .returned (.int .i64 r) ∧ 0 ≤ r ∧ Below w.heap.size w w' := by
  have HH := Lib.hid h
  have HJ := Lib.hid hj
  have hN0 : N ≤ cap ∧ cap ≤ maxLen := by
    obtain ⟨-, -, a', cap', e, h1, h2, -⟩ := h
    simp only [Value.slice.injEq, true_and] at e
    obtain ⟨-, rfl⟩ := e
    exact ⟨h1, h2⟩
  obtain ⟨hN1, hN2⟩ := hN0
  unfold maxLen at hN2
  obtain ⟨j, hjt, e1, e2⟩ := place_of hj hv hi
  have HE := Lib.hid (And.intro e1 e2)
  have hjN : j < N := by rw [h.tot hj]; exact hjt
  clear h hj e1 e2 hi
  have hb0 : Below w.heap.size w (w.alloc (.cells #[.int .i64 v, .int .i64 i] 32)) := by (repeat' (first | exact Below.refl _ _ | assumption | refine Below.drew ?_ | refine below_drewN ?_ _ | refine Below.alloc ?_ (by omega) _ | refine Below.alloc ?_ (by simp; omega) _ | refine Below.alloc ?_ (by simp) _ | refine Below.setCell ?_ (by omega) _ | refine Below.setCell ?_ (by simp; omega) _ | refine Below.setCell ?_ (by simp) _))
  obtain ⟨w1, hw1⟩ : ∃ w1, w1 = w.alloc (.cells #[.int .i64 v, .int .i64 i] 32) := ⟨_, rfl⟩
  have R0 : w1.cell? ⟨w.heap.size, 0, none⟩ = some (.int .i64 v) := by rw [hw1]; simp
  have R1 : w1.cell? ⟨w.heap.size, 1, none⟩ = some (.int .i64 i) := by rw [hw1]; simp
  rw [← hw1] at hb0
  have HW1 := Lib.hid hw1
  have HB0 := Lib.hid hb0
  have R := Lib.hid (And.intro R0 R1)
  clear hw1 R0 R1 hb0
  go_enter Try.func31, Try.ntmps31
  go_wp2
  rw [← HW1.out]
  go_loopw [5] (fun k' wr => ∃ k : Nat, k ≤ N ∧ k ≤ j ∧ k' = .int .i64 k ∧ Hid (Below w1.heap.size w1 wr)) (fun k' _ => N - (intOf k').toNat)
  case atStart => exact ⟨0, Nat.zero_le _, Nat.zero_le _, rfl, Below.refl _ _⟩
  case round =>
    obtain ⟨k, hk, hkj, rfl, HBr⟩ := hrel
    have HBW := Lib.hid (HB0.out.trans (HBr.out.mono HB0.out.size))
    have r0 := cell_keep HBr.out R.out.1
    have r1 := cell_keep HBr.out R.out.2
    obtain ⟨g, o, x, y, rfl, d1, d2, HX, x3, yL⟩ := (HH.out.below HBW.out).at HJ.out (k := k) (by omega)
    have HD : Hid (∀ n, Below w1.heap.size w1 (wr.drewN n)) := fun n => by have := HBr.out; (repeat' (first | exact Below.refl _ _ | assumption | refine Below.drew ?_ | refine below_drewN ?_ _ | refine Below.alloc ?_ (by omega) _ | refine Below.alloc ?_ (by simp; omega) _ | refine Below.alloc ?_ (by simp) _ | refine Below.setCell ?_ (by omega) _ | refine Below.setCell ?_ (by simp; omega) _ | refine Below.setCell ?_ (by simp) _))
    by_cases hkk : k = j
    · subst hkk
      obtain rfl : v = x := by rw [← HX.out.1, HE.out.1]
      obtain rfl : i = y := by rw [← HX.out.2, HE.out.2]
      go_wp2
      go_quiet (fail)
      go_wp2
      go_ret
      exact ⟨_, rfl, by omega, HB0.out.trans ((HD.out _).mono HB0.out.size)⟩
    · have hne : ¬ (x = v ∧ y = i) := fun e => by
        have := place_ne HJ.out (show k < j by omega) hjt
        exact this ⟨by rw [HX.out.1, HE.out.1]; exact e.1, by rw [HX.out.2, HE.out.2]; exact e.2⟩
      have hc : ((x : Int) == (v : Int)) = false ∨ (((x : Int) == (v : Int)) = true ∧ ((y : Int) == (i : Int)) = false) := by
        rw [beq_eq_false_iff_ne, beq_eq_false_iff_ne, beq_iff_eq]
        by_cases e : x = v
        · exact .inr ⟨by omega, fun h => hne ⟨e, by omega⟩⟩
        · exact .inl (by omega)
      clear hne
      rcases hc with heq | ⟨heq, heq2⟩
      all_goals
        go_wp2
        go_quiet (fail)
        go_wp2
        go_roundw
        case rel => exact ⟨k + 1, by omega, by omega, by go_num, HD.out _⟩
        case measure => simp [intOf]; omega
set_option maxRecDepth 100000 in
set_option maxHeartbeats 6400000 in
theorem lawFnOrderFirst_c (w : World) (v : Value) (n : Nat) (h : RdB w v n) : Calls Try.prog 10 #[v] w fun e w' => e = .returned (.bool true) ∧ Below w.heap.size w w' := by
  have hB := h
  obtain ⟨a, cap, rfl, h1, h2, -⟩ := h
  unfold maxLen at h2
  by_cases hn : 1048576 < n
  · go_enter Try.func10, Try.ntmps10
    go_wp2
    go_ret
    exact ⟨rfl, Below.refl _ _⟩
  · go_enter Try.func10, Try.ntmps10
    go_wp2_with fail
    refine (drawJoinOrder_c _ n _ hB).mono ?_
    rintro e w1 ⟨v, F, rfl, hF, hbd⟩
    have HV := Lib.hid hF
    have T := Lib.hid hbd
    clear hF hbd
    go_wp2_with fail
    refine (joinOrder_o F _ _ HV.out).mono ?_
    rintro e w2 ⟨ao, ON, Oc, rfl, Ob, O1, O2, hO, hbd⟩
    unfold maxLen at O2
    have HV := Lib.hid (HV.out.below hbd)
    have T := Lib.hid (T.out.trans (hbd.mono T.out.size))
    clear hbd
    have HO := Lib.hid hO
    clear hO
    go_wp2_with fail
    refine (specJoinOrder_o F _ _ HV.out).mono ?_
    rintro e w3 ⟨aw, WN, Wc, rfl, Wb, W1, W2, hW, hbd⟩
    unfold maxLen at W2
    have HV := Lib.hid (HV.out.below hbd)
    have HO := Lib.hid (HO.out.below hbd)
    have T := Lib.hid (T.out.trans (hbd.mono T.out.size))
    clear hbd
    have HW := Lib.hid hW
    clear hW
    go_wp2_with fail
    refine (sameRefs_o _ HO.out HW.out).mono ?_
    rintro e w4 ⟨rfl, hbd⟩
    have HV := Lib.hid (HV.out.below hbd)
    have HO := Lib.hid (HO.out.below hbd)
    have HW := Lib.hid (HW.out.below hbd)
    have T := Lib.hid (T.out.trans (hbd.mono T.out.size))
    clear hbd
    by_cases hz : WN = 0
    · subst hz
      go_wp2_with fail
      refine (sameRefs_o _ HO.out HW.out).mono ?_
      rintro e w5 ⟨rfl, hbd⟩
      have HV := Lib.hid (HV.out.below hbd)
      have HO := Lib.hid (HO.out.below hbd)
      have HW := Lib.hid (HW.out.below hbd)
      have T := Lib.hid (T.out.trans (hbd.mono T.out.size))
      clear hbd
      go_wp2
      go_ret
      exact ⟨rfl, T.out⟩
    · have hpos := jo_pos (by rw [← HW.out.1]; exact hz)
      have hz' : ((WN : Int) == 0) = false := by rw [beq_eq_false_iff_ne]; omega
      have HJ := Lib.hid hpos.1
      have hN := Lib.hid (HO.out.tot hpos.1)
      have hN0 : 0 < ON := by have := hN.out; have := hpos.2; omega
      clear hpos
      go_wp2
      go_loopw [6] (fun i' wr => ∃ i : Nat, 1 ≤ i ∧ (i ≤ ON ∨ i = 1) ∧ i' = .int .i64 i ∧ Hid (Below w4.heap.size w4 wr)) (fun i' _ => ON - (intOf i').toNat)
      case atStart => exact ⟨1, by omega, .inr rfl, rfl, Below.refl _ _⟩
      case round =>
        obtain ⟨i, hi1, hi, rfl, HBr⟩ := hrel
        obtain ⟨g, o, x, y, rfl, d1, d2, HX, x3, yL⟩ := (HO.out.below HBr.out).at HJ.out (k := 0) (by omega)
        have hy0 : y = 0 := by have := HX.out.2; rw [ix0] at this; exact this.symm
        subst hy0
        simp only [Nat.zero_mul, Nat.add_zero] at d1 d2
        by_cases hlt : i < ON
        · obtain ⟨gB, oB, x', y', eB, dB1, dB2, HXB, x3', yL'⟩ := (HO.out.below HBr.out).at HJ.out (k := i) (by omega)
          simp only [Option.some.injEq, Addr.mk.injEq, and_true] at eB
          obtain ⟨rfl, rfl⟩ := eB
          have HE : Hid (jsB F x ((0 : Nat) : Int) x' y' = false) := by
            have h1 := order_sees HJ.out (show 0 < i by omega) (by rw [← hN.out]; exact hlt)
            rw [HX.out.1, HX.out.2, HXB.out.1, HXB.out.2] at h1
            exact h1
          have q1 := fun (s : Sub wr) => s.cell d1
          have q2 := fun (s : Sub wr) => s.cell d2
          have q3 := fun (s : Sub wr) => s.cell dB1
          have q4 := fun (s : Sub wr) => s.cell dB2
          clear d1 d2 dB1 dB2
          go_wp2
          refine wp_region_sub (by kernel_rfl) (by kernel_rfl) ?_
          repeat (go_big_quiet_step (exact Calls.sub (v := .bool false) (fun w hb => by have := joinSees_c F _ x ((0 : Nat) : Int) x' y' w (HV.out.below (HBr.out.trans (hb.mono HBr.out.size))); rwa [HE.out] at this)))
          refine wpQuiet_nil ?_
          rintro _ ⟨xs, rfl⟩
          have HB7 := Lib.hid (HBr.out.trans (xs.b.mono HBr.out.size))
          go_wp2
          go_roundw
          case rel => exact ⟨i + 1, by omega, by omega, by go_num, HB7⟩
          case measure => simp [intOf]; omega
        · go_wp2
          go_ret
          exact ⟨rfl, T.out.trans (HBr.out.mono T.out.size)⟩
set_option maxRecDepth 100000 in
set_option maxHeartbeats 6400000 in
theorem lawFnOrderWriter_c (w : World) (v : Value) (n : Nat) (h : RdB w v n) : Calls Try.prog 9 #[v] w fun e w' => e = .returned (.bool true) ∧ Below w.heap.size w w' := by
  have hB := h
  obtain ⟨a, cap, rfl, h1, h2, -⟩ := h
  unfold maxLen at h2
  by_cases hn : 1048576 < n
  · go_enter Try.func9, Try.ntmps9
    go_wp2
    go_ret
    exact ⟨rfl, Below.refl _ _⟩
  · go_enter Try.func9, Try.ntmps9
    go_wp2_with fail
    refine (drawJoinOrder_c _ n _ hB).mono ?_
    rintro e w1 ⟨v, F, rfl, hF, hbd⟩
    have HV := Lib.hid hF
    have T := Lib.hid hbd
    clear hF hbd
    go_wp2_with fail
    refine (joinOrder_o F _ _ HV.out).mono ?_
    rintro e w2 ⟨ao, ON, Oc, rfl, Ob, O1, O2, hO, hbd⟩
    unfold maxLen at O2
    have HV := Lib.hid (HV.out.below hbd)
    have T := Lib.hid (T.out.trans (hbd.mono T.out.size))
    clear hbd
    have HO := Lib.hid hO
    clear hO
    go_wp2_with fail
    refine (specJoinOrder_o F _ _ HV.out).mono ?_
    rintro e w3 ⟨aw, WN, Wc, rfl, Wb, W1, W2, hW, hbd⟩
    unfold maxLen at W2
    have HV := Lib.hid (HV.out.below hbd)
    have HO := Lib.hid (HO.out.below hbd)
    have T := Lib.hid (T.out.trans (hbd.mono T.out.size))
    clear hbd
    have HW := Lib.hid hW
    clear hW
    go_wp2_with fail
    refine (sameRefs_o _ HO.out HW.out).mono ?_
    rintro e w4 ⟨rfl, hbd⟩
    have HV := Lib.hid (HV.out.below hbd)
    have HO := Lib.hid (HO.out.below hbd)
    have HW := Lib.hid (HW.out.below hbd)
    have T := Lib.hid (T.out.trans (hbd.mono T.out.size))
    clear hbd
    go_wp2_with fail
    refine (specJoinValid_c F _ _ HV.out).mono ?_
    rintro e w5 ⟨rfl, hbd⟩
    have HV := Lib.hid (HV.out.below hbd)
    have HO := Lib.hid (HO.out.below hbd)
    have HW := Lib.hid (HW.out.below hbd)
    have T := Lib.hid (T.out.trans (hbd.mono T.out.size))
    clear hbd
    by_cases hj : JV F
    · rw [jvB_t hj]
      have HJ := Lib.hid hj
      have hN := Lib.hid (HO.out.tot hj)
      clear hj
      obtain ⟨wb, hwb⟩ : ∃ wb, wb = w5.alloc (.cells #[.int .i64 0, .int .i64 0, .int .i64 0] 3) := ⟨_, rfl⟩
      have HB0 : Hid (Below w5.heap.size w5 wb) := by rw [hwb]; show Below _ _ _; (repeat' (first | exact Below.refl _ _ | assumption | refine Below.drew ?_ | refine below_drewN ?_ _ | refine Below.alloc ?_ (by omega) _ | refine Below.alloc ?_ (by simp; omega) _ | refine Below.alloc ?_ (by simp) _ | refine Below.setCell ?_ (by omega) _ | refine Below.setCell ?_ (by simp; omega) _ | refine Below.setCell ?_ (by simp) _))
      have HC0 : Hid (Cells3 wb w5.heap.size (pst F 0)) := fun u hu => by
        obtain rfl | rfl | rfl : u = 0 ∨ u = 1 ∨ u = 2 := by omega
        all_goals (rw [hwb]; simp [pst])
      have HWB := Lib.hid hwb
      clear hwb
      go_wp2
      rw [← HWB.out]
      go_loopw [7] (fun i' wr => ∃ i : Nat, i ≤ ON ∧ i' = .int .i64 i ∧ Hid (Below w5.heap.size w5 wr) ∧ Hid (Cells3 wr w5.heap.size (pst F i))) (fun i' _ => ON - (intOf i').toNat)
      case atStart => exact ⟨0, Nat.zero_le _, rfl, HB0, HC0⟩
      case round =>
        clear HB0 HC0
        obtain ⟨i, hi, rfl, HBr, HC⟩ := hrel
        by_cases hlt : i < ON
        · obtain ⟨g, o, x, y, rfl, d1, d2, HX, x3, yL⟩ := (HO.out.below HBr.out).at HJ.out (k := i) (by omega)
          have hxy : pst F i x = y := by have := HX.out.2; unfold ix at this; rw [HX.out.1] at this; exact this
          have ax := (HC.out x x3).1
          have fx := (HC.out x x3).2
          rw [hxy] at ax
          have HXY := Lib.hid hxy
          have HNX : Hid (pst F (i + 1) = inc (pst F i) x) := by
            have := pst_next HJ.out (k := i) (by have := hN.out; omega)
            rw [HX.out.1] at this
            exact this
          have h8 := HJ.out.2.1 x x3
          have hyw : IntKind.i64.wrap ((y : Int) + 1) = (y : Int) + 1 := by rw [IntKind.wrap_i64]; omega
          have hx3' : (x : Int) < 3 := by omega
          clear hxy
          go_wp2
          go_quiet (fail)
          obtain ⟨w7, hw7⟩ : ∃ w7, w7 = wr.drewN nq := ⟨_, rfl⟩
          have hb7 : Below wr.heap.size wr w7 := by rw [hw7]; (repeat' (first | exact Below.refl _ _ | assumption | refine Below.drew ?_ | refine below_drewN ?_ _ | refine Below.alloc ?_ (by omega) _ | refine Below.alloc ?_ (by simp; omega) _ | refine Below.alloc ?_ (by simp) _ | refine Below.setCell ?_ (by omega) _ | refine Below.setCell ?_ (by simp; omega) _ | refine Below.setCell ?_ (by simp) _))
          have hf7 : w7.frozen? ⟨w5.heap.size, x, none⟩ = false := by rw [hw7]; simpa using fx
          rw [← hw7]
          clear hw7
          have d1 := cell_keep hb7 d1
          have d2 := cell_keep hb7 d2
          have ax := cell_keep hb7 ax
          have HB7 := Lib.hid (HBr.out.trans (hb7.mono HBr.out.size))
          have HC7 := Lib.hid (HC.out.below hb7)
          clear hb7
          go_wp2
          go_still_tail 13, (by kernel_rfl)
          go_wp2
          go_roundw
          case rel =>
            refine ⟨i + 1, by omega, by go_num, (HB7.out.setCell (Nat.le_refl _) _).drew, ?_⟩
            show Cells3 _ _ _
            rw [HNX.out]
            exact (HC7.out.inc x3 (by rw [HXY.out])).below (Below.refl _ _).drew
          case measure => simp [intOf]; omega
        · go_wp2
          go_ret
          exact ⟨rfl, T.out.trans (HBr.out.mono T.out.size)⟩
    · rw [jvB_f hj]
      clear hj
      go_wp2_with fail
      refine (sameRefs_o _ HO.out HW.out).mono ?_
      rintro e w6 ⟨rfl, hbd⟩
      have HV := Lib.hid (HV.out.below hbd)
      have HO := Lib.hid (HO.out.below hbd)
      have HW := Lib.hid (HW.out.below hbd)
      have T := Lib.hid (T.out.trans (hbd.mono T.out.size))
      clear hbd
      go_wp2
      go_ret
      exact ⟨rfl, T.out⟩
set_option maxRecDepth 100000 in
set_option maxHeartbeats 6400000 in
theorem lawFnOrderAll_c (w : World) (v : Value) (n : Nat) (h : RdB w v n) : Calls Try.prog 13 #[v] w fun e w' => e = .returned (.bool true) ∧ Below w.heap.size w w' := by
  have hB := h
  obtain ⟨a, cap, rfl, h1, h2, -⟩ := h
  unfold maxLen at h2
  by_cases hn : 1048576 < n
  · go_enter Try.func13, Try.ntmps13
    go_wp2
    go_ret
    exact ⟨rfl, Below.refl _ _⟩
  · go_enter Try.func13, Try.ntmps13
    go_wp2_with fail
    refine (drawJoinOrder_c _ n _ hB).mono ?_
    rintro e w1 ⟨v, F, rfl, hF, hbd⟩
    have HV := Lib.hid hF
    have T := Lib.hid hbd
    clear hF hbd
    go_wp2_with fail
    refine (joinOrder_o F _ _ HV.out).mono ?_
    rintro e w2 ⟨ao, ON, Oc, rfl, Ob, O1, O2, hO, hbd⟩
    unfold maxLen at O2
    have HV := Lib.hid (HV.out.below hbd)
    have T := Lib.hid (T.out.trans (hbd.mono T.out.size))
    clear hbd
    have HO := Lib.hid hO
    clear hO
    go_wp2_with fail
    refine (specJoinOrder_o F _ _ HV.out).mono ?_
    rintro e w3 ⟨aw, WN, Wc, rfl, Wb, W1, W2, hW, hbd⟩
    unfold maxLen at W2
    have HV := Lib.hid (HV.out.below hbd)
    have HO := Lib.hid (HO.out.below hbd)
    have T := Lib.hid (T.out.trans (hbd.mono T.out.size))
    clear hbd
    have HW := Lib.hid hW
    clear hW
    go_wp2_with fail
    refine (sameRefs_o _ HO.out HW.out).mono ?_
    rintro e w4 ⟨rfl, hbd⟩
    have HV := Lib.hid (HV.out.below hbd)
    have HO := Lib.hid (HO.out.below hbd)
    have HW := Lib.hid (HW.out.below hbd)
    have T := Lib.hid (T.out.trans (hbd.mono T.out.size))
    clear hbd
    go_wp2_with fail
    refine (specJoinValid_c F _ _ HV.out).mono ?_
    rintro e w5 ⟨rfl, hbd⟩
    have HV := Lib.hid (HV.out.below hbd)
    have HO := Lib.hid (HO.out.below hbd)
    have HW := Lib.hid (HW.out.below hbd)
    have T := Lib.hid (T.out.trans (hbd.mono T.out.size))
    clear hbd
    by_cases hj : JV F
    · rw [jvB_t hj]
      have HJ := Lib.hid hj
      have hN := Lib.hid (HO.out.tot hj)
      clear hj
      obtain ⟨a0, m0, cap0, rfl, hm0, q1, q2⟩ := shape3 HV.out
      unfold maxLen at q2
      have hm3 : m0 = 3 := hm0.trans HJ.out.1
      clear hm0
      subst hm3
      have hl8 : ∀ u, u < 3 → ln F u ≤ 8 := HJ.out.2.1
      have HL8 := Lib.hid hl8
      have HPT : Hid (ON = pre F 3) := hN.out.trans (pre_tot F).symm
      clear hl8
      go_wp2
      go_loopw [6, 7] (fun n' v' wr => ∃ v : Nat, v ≤ 3 ∧ n' = .int .i64 (pre F v : Nat) ∧ v' = .int .i64 v ∧ Hid (Below w5.heap.size w5 wr)) (fun _ v' _ => 3 - (intOf v').toNat)
      case atStart => exact ⟨0, Nat.zero_le _, rfl, rfl, Below.refl _ _⟩
      case round =>
        obtain ⟨v, hv, rfl, rfl, HBv⟩ := hrel
        obtain ⟨wi, hwi⟩ : ∃ wi : World, wi = wr := ⟨_, rfl⟩
        by_cases hlt : v < 3
        · have hlt' : (v : Int) < 3 := by omega
          have hp8 := pre_le HL8.out v (by omega)
          obtain ⟨P, hP⟩ : ∃ P, pre F v = P := ⟨_, rfl⟩
          rw [hP] at hp8
          have HP := Lib.hid hP
          rw [hP]
          clear hP
          go_wp2
          go_loopw [6, 8] (fun n' i' wr => ∃ i : Nat, i ≤ ln F v ∧ n' = .int .i64 (P + i : Nat) ∧ i' = .int .i64 i ∧ Hid (Below wi.heap.size wi wr)) (fun _ i' _ => ln F v - (intOf i').toNat)
          case atStart => exact ⟨0, Nat.zero_le _, rfl, rfl, by subst hwi; exact Below.refl _ _⟩
          case round =>
            subst hwi
            obtain ⟨i, hi, rfl, rfl, HBi⟩ := hrel
            have HBr := Lib.hid (HBv.out.trans (HBi.out.mono HBv.out.size))
            obtain ⟨b5, o5, c5, a6, c6, ev, -, -, q5, q6, q7, -⟩ := (HV.out.below HBr.out).feed (j := v) (by rw [HJ.out.1]; exact hlt)
            rw [HJ.out.1] at ev
            simp only [Value.slice.injEq] at ev
            obtain ⟨rfl, -, rfl⟩ := ev
            unfold maxLen at q7
            have h8 := HL8.out v hlt
            obtain ⟨L, hL⟩ : ∃ L, ln F v = L := ⟨_, rfl⟩
            rw [hL] at q5 q6 h8 hi
            have HL := Lib.hid hL
            clear hL
            by_cases hil : i < L
            · have hpw : IntKind.i64.wrap (((P + i : Nat) : Int) + 1) = ((P + (i + 1) : Nat) : Int) := by rw [IntKind.wrap_i64]; omega
              go_wp2_with fail
              refine (placeOf_c v i _ (HO.out.below HBr.out) HJ.out (by omega) hlt (by rw [HL.out]; exact hil)).mono ?_
              rintro e w7 ⟨r, rfl, hr, hbd⟩
              have HB7 := Lib.hid (HBi.out.trans (hbd.mono HBi.out.size))
              have hr' : ¬ (r < 0) := by omega
              clear hbd q5
              go_wp2
              go_roundw
              case rel => exact ⟨i + 1, by have := HL.out; omega, by go_num, by go_num, HB7⟩
              case measure => have := HL.out; simp [intOf]; omega
            · obtain rfl : i = L := by omega
              have HPS : Hid (pre F (v + 1) = P + i) := by show pre F v + ln F v = _; rw [HP.out, HL.out]
              go_wp2
              go_roundw
              case rel => exact ⟨v + 1, by omega, by rw [HPS.out], by go_num, HBr⟩
              case measure => simp [intOf]; omega
        · obtain rfl : v = 3 := by omega
          have HPT' := HPT.out
          rw [← HPT']
          go_wp2
          go_ret
          exact ⟨rfl, T.out.trans (HBv.out.mono T.out.size)⟩
    · rw [jvB_f hj]
      clear hj
      go_wp2_with fail
      refine (sameRefs_o _ HO.out HW.out).mono ?_
      rintro e w6 ⟨rfl, hbd⟩
      have HV := Lib.hid (HV.out.below hbd)
      have HO := Lib.hid (HO.out.below hbd)
      have HW := Lib.hid (HW.out.below hbd)
      have T := Lib.hid (T.out.trans (hbd.mono T.out.size))
      clear hbd
      go_wp2
      go_ret
      exact ⟨rfl, T.out⟩
end Go.Proofs.Ytpgpnemehbbmpaa
