/- The walk of the law that the last entry of the order can be missing. -/
import Derived.Test.YtpgpnemehbbmpaaLJw
import Derived.Test.YtpgpnemehbbmpaaShF
import Derived.Deep.RegionWith
namespace Go.Proofs.Ytpgpnemehbbmpaa
open Go.RowKit
attribute [local go_sem ↓] Go.wp_at_zero Go.wp_at_succ
set_option maxRecDepth 100000 in
set_option maxHeartbeats 6400000 in
theorem lawFnJoinPart_c (w : World) (v : Value) (n : Nat) (h : RdB w v n) : Calls Try.prog 8 #[v] w fun e w' => e = .returned (.bool true) ∧ Below w.heap.size w w' := by
  have hB := h
  obtain ⟨a, cap, rfl, h1, h2, -⟩ := h
  unfold maxLen at h2
  by_cases hn : 1048576 < n
  · go_enter Try.func8, Try.ntmps8
    go_wp2
    go_ret
    exact ⟨rfl, Below.refl _ _⟩
  · go_enter Try.func8, Try.ntmps8
    go_wp2_with fail
    refine (drawJoinOrder_c _ n _ hB).mono ?_
    rintro e w1 ⟨v, F, rfl, hF, hbd⟩
    have HV := Lib.hid hF
    have T := Lib.hid hbd
    clear hF hbd
    go_wp2_with fail
    refine (joinOrder_o F _ _ HV.out).mono ?_
    rintro e w2 ⟨ao, ON, Oc, rfl, Ob, O1, O2, hO, hbd⟩
    unfold maxLen at O2
    have HV := Lib.hid (HV.out.below hbd)
    have T := Lib.hid (T.out.trans (hbd.mono T.out.size))
    clear hbd
    have HO := Lib.hid hO
    clear hO
    go_wp2_with fail
    refine (specJoinOrder_o F _ _ HV.out).mono ?_
    rintro e w3 ⟨aw, WN, Wc, rfl, Wb, W1, W2, hW, hbd⟩
    unfold maxLen at W2
    have HV := Lib.hid (HV.out.below hbd)
    have HO := Lib.hid (HO.out.below hbd)
    have T := Lib.hid (T.out.trans (hbd.mono T.out.size))
    clear hbd
    have HW := Lib.hid hW
    clear hW
    go_wp2_with fail
    refine (sameRefs_o _ HO.out HW.out).mono ?_
    rintro e w4 ⟨rfl, hbd⟩
    have HV := Lib.hid (HV.out.below hbd)
    have HO := Lib.hid (HO.out.below hbd)
    have HW := Lib.hid (HW.out.below hbd)
    have T := Lib.hid (T.out.trans (hbd.mono T.out.size))
    clear hbd
    by_cases hz : WN = 0
    · subst hz
      go_wp2_with fail
      refine (sameRefs_o _ HO.out HW.out).mono ?_
      rintro e w5 ⟨rfl, hbd⟩
      have HV := Lib.hid (HV.out.below hbd)
      have HO := Lib.hid (HO.out.below hbd)
      have HW := Lib.hid (HW.out.below hbd)
      have T := Lib.hid (T.out.trans (hbd.mono T.out.size))
      clear hbd
      go_wp2
      go_ret
      exact ⟨rfl, T.out⟩
    · have hpos := jo_pos (by rw [← HW.out.1]; exact hz)
      have hz' : ((WN : Int) == 0) = false := by rw [beq_eq_false_iff_ne]; omega
      have HJ := Lib.hid hpos.1
      have hN := Lib.hid (HO.out.tot hpos.1)
      have hN0 : 0 < ON := by have := hN.out; have := hpos.2; omega
      clear hpos
      obtain ⟨a0, m0, cap0, rfl, hm0, q1, q2⟩ := shape3 HV.out
      unfold maxLen at q2
      have hm3 : m0 = 3 := hm0.trans HJ.out.1
      clear hm0
      subst hm3
      obtain ⟨j, hj⟩ : ∃ j, ON = j + 1 := ⟨ON - 1, by omega⟩
      have hwj : IntKind.i64.wrap ((ON : Int) - 1) = (j : Int) := by rw [IntKind.wrap_i64]; omega
      have hjO : j ≤ Oc := by omega
      have hjN : j < ON := by omega
      have hjN' : (j : Int) < (ON : Int) := by omega
      have HT : Hid (tot F = j + 1) := by have := hN.out; show _ = _; omega
      obtain ⟨g, o, x, y, rfl, d1, d2, HX, x3, yL⟩ := HO.out.at HJ.out (k := j) (by omega)
      have HPT := Lib.hid (pF_part HJ.out HT.out)
      rw [HX.out.1] at HPT
      have HJX := Lib.hid (jvB_t HPT.out.1)
      have HJP := Lib.hid (jo_part HJ.out HT.out HPT.out)
      clear hj
      obtain ⟨wb, hwb⟩ : ∃ wb, wb = w4.alloc (.cells #[.int .i64 x, .int .i64 y] 32) := ⟨_, rfl⟩
      have hbb : Below w4.heap.size w4 wb := by rw [hwb]; (repeat' (first | exact Below.refl _ _ | assumption | refine Below.drew ?_ | refine below_drewN ?_ _ | refine Below.alloc ?_ (by omega) _ | refine Below.alloc ?_ (by simp; omega) _ | refine Below.alloc ?_ (by simp) _ | refine Below.setCell ?_ (by omega) _ | refine Below.setCell ?_ (by simp; omega) _ | refine Below.setCell ?_ (by simp) _))
      have L0 : Hid (wb.cell? ⟨w4.heap.size, 0, none⟩ = some (.int .i64 x)) := by show _ = _; rw [hwb]; simp
      have HS0 : Hid (ShF wb.heap.size (wb.alloc (.cells #[] 39)) (.slice (some ⟨wb.heap.size, 0, none⟩) 0 0) (pF F x 0)) := ShF.nil (own_empty wb wb.heap.size 39 1 (Nat.le_refl _))
      have HB0 : Hid (Below wb.heap.size wb (wb.alloc (.cells #[] 39))) := (Below.refl _ _).alloc (Nat.le_refl _) _
      have hzb : w4.heap.size + 1 = wb.heap.size := by rw [hwb]; simp
      have HWB := Lib.hid hwb
      clear hwb
      have HZB := Lib.hid hzb
      have HVb := Lib.hid (HV.out.below hbb)
      have HOb := Lib.hid (HO.out.below hbb)
      have T := Lib.hid (T.out.trans (hbb.mono T.out.size))
      clear hbb hzb
      go_wp2
      rw [HZB.out, ← HWB.out]
      go_loopw [8, 9] (fun o' v' wr => ∃ v : Nat, v ≤ 3 ∧ v' = .int .i64 v ∧ Hid (ShF wb.heap.size wr o' (pF F x v)) ∧ Hid (Below wb.heap.size wb wr)) (fun _ v' _ => 3 - (intOf v').toNat)
      case atStart => exact ⟨0, Nat.zero_le _, rfl, HS0, HB0⟩
      case round =>
        clear HS0 HB0
        obtain ⟨v, hv, rfl, HS, HBr⟩ := hrel
        have l0 := cell_keep HBr.out L0.out
        by_cases hlt : v < 3
        · have hlt' : (v : Int) < 3 := by omega
          obtain ⟨b5, o5, c5, a6, c6, ev, -, -, q5, q6, q7, qr⟩ := HVb.out.feed (j := v) (by rw [HJ.out.1]; exact hlt)
          rw [HJ.out.1] at ev
          simp only [Value.slice.injEq] at ev
          obtain ⟨rfl, -, rfl⟩ := ev
          unfold maxLen at q7
          have q5 := cell_keep HBr.out q5
          have hr : RdR (fun b => b < wb.heap.size) wr (.slice a6 (ln F v) c6) (F.getD v []) := (qr.sub (S' := fun b => b < wb.heap.size) (fun _ hk _ => hk)).below HBr.out
          have h8 := HJ.out.2.1 v hlt
          have hBz := HBr.out.size
          have HL3 := Lib.hid (pF_len F x v)
          clear qr
          by_cases hvx : v = x
          · have hvx' : ((v : Int) == (x : Int)) = true := by rw [beq_iff_eq]; omega
            have hL0 : 0 < ln F v := by subst hvx; omega
            have HR := Lib.hid (show RdR (fun b => b < wb.heap.size) wr (.slice a6 (ln F v - 1) c6) (pRow F x v) by unfold pRow; rw [if_pos hvx]; exact hr.take (by omega))
            obtain ⟨L, hL⟩ : ∃ L, ln F v = L := ⟨_, rfl⟩
            rw [hL] at q5 q6 h8 hL0 HR
            have hLw : IntKind.i64.wrap ((L : Int) - 1) = ((L - 1 : Nat) : Int) := by rw [IntKind.wrap_i64]; omega
            have hLc : L - 1 ≤ c6 := by omega
            obtain ⟨M, hM⟩ : ∃ M, L - 1 = M := ⟨_, rfl⟩
            rw [hM] at hLw hLc HR
            have HE : Hid (pF F x (v + 1) = pF F x v ++ [pRow F x v]) := pF_succ F x v
            have HBd : Hid (Below wb.heap.size wb (wr.drew.alloc (.cells #[.slice a6 M c6] 39))) := by have := HBr.out; show Below _ _ _; (repeat' (first | exact Below.refl _ _ | assumption | refine Below.drew ?_ | refine below_drewN ?_ _ | refine Below.alloc ?_ (by omega) _ | refine Below.alloc ?_ (by simp; omega) _ | refine Below.alloc ?_ (by simp) _ | refine Below.setCell ?_ (by omega) _ | refine Below.setCell ?_ (by simp; omega) _ | refine Below.setCell ?_ (by simp) _))
            clear hL hM hvx hr
            go_wp2
            go_region_law (refine step_pushS (B := wb.heap.size) _ rfl (.tmp 47) (.tmp 59) 25 rfl Try.underlying25 _ (pF F x v) (by simp [Act.eval, Act.put]) (ShF.below HS.out (by (repeat' (first | exact Below.refl _ _ | assumption | refine Below.drew ?_ | refine below_drewN ?_ _ | refine Below.alloc ?_ (by omega) _ | refine Below.alloc ?_ (by simp; omega) _ | refine Below.alloc ?_ (by simp) _ | refine Below.setCell ?_ (by omega) _ | refine Below.setCell ?_ (by simp; omega) _ | refine Below.setCell ?_ (by simp) _)))) (.slice a6 M c6) (pRow F x v) (RdR.below HR.out (by (repeat' (first | exact Below.refl _ _ | assumption | refine Below.drew ?_ | refine below_drewN ?_ _ | refine Below.alloc ?_ (by omega) _ | refine Below.alloc ?_ (by simp; omega) _ | refine Below.alloc ?_ (by simp) _ | refine Below.setCell ?_ (by omega) _ | refine Below.setCell ?_ (by simp; omega) _ | refine Below.setCell ?_ (by simp) _)))) wr.heap.size 1 (by simp [Act.eval, Act.put]) (by simp) (by rw [HL3.out]; omega) (by simp; omega) ?_; intro v' w6 ho hg; have HO6 := Lib.hid (show ShF wb.heap.size w6 v' (pF F x (v + 1)) from by rw [HE.out]; exact ho); have HB6 := Lib.hid (HBd.out.grown hg HBd.out.size (fun b hb => (HS.out.blk b hb))); clear ho hg)
            all_goals
              go_wp2
              go_roundw
              case rel => exact ⟨v + 1, by omega, by go_num, HO6, HB6⟩
              case measure => simp [intOf]; omega
          · have hvx' : ((v : Int) == (x : Int)) = false := by rw [beq_eq_false_iff_ne]; omega
            have HE : Hid (pF F x (v + 1) = pF F x v ++ [F.getD v []]) := by show _ = _; rw [pF_succ]; unfold pRow; rw [if_neg hvx]
            clear hvx
            go_wp2_with (at_builtin; refine wpList_pushS _ rfl _ _ 25 rfl Try.underlying25 _ _ rfl HS.out (Below.refl _ _) _ _ hr _ _ _ rfl (by simp) (by rw [HL3.out]; omega) hBz ?_)
            intro v' w6 ho hg
            have HO6 := Lib.hid (show ShF wb.heap.size w6 v' (pF F x (v + 1)) by rw [HE.out]; exact ho)
            have HB6 := Lib.hid (HBr.out.grown hg HBr.out.size (fun b hb => (HS.out.blk b hb)))
            clear ho hg hr
            go_wp2
            go_roundw
            case rel => exact ⟨v + 1, by omega, by go_num, HO6, HB6⟩
            case measure => simp [intOf]; omega
        · obtain rfl : v = 3 := by omega
          have HOr := Lib.hid (HOb.out.below HBr.out.drew)
          have TB := Lib.hid (T.out.trans (HBr.out.drew.mono T.out.size))
          have HSd := Lib.hid (HS.out.below (Below.refl _ _).drew)
          clear l0
          go_wp2
          go_region_with (first
            | (go_at_call 21; refine (joinValid_c (pF F x 3) _ _ HSd.out.rd).mono ?_; rintro e w11 ⟨rfl, hb11⟩; rw [HJX.out]; have HS11 := Lib.hid (HSd.out.below hb11); have HO11 := Lib.hid (HOr.out.below hb11); have TB11 := Lib.hid (TB.out.trans (hb11.mono TB.out.size)); clear hb11)
            | (go_at_call 27; refine (joinOrder_o (pF F x 3) _ _ HS11.out.rd).mono ?_; rintro e w12 ⟨a12, N12, c12, rfl, b12, l12, m12, o12, hb12⟩; have HO12 := Lib.hid (HO11.out.below hb12); have HP12 := Lib.hid o12; have TB12 := Lib.hid (TB11.out.trans (hb12.mono TB11.out.size)); clear hb12 o12)
            | (go_at_call 30; refine (sameRefs_part (n := j) _ HP12.out HO12.out (by omega) HJP.out).mono ?_; rintro e w13 ⟨rfl, hb13⟩; have TB13 := Lib.hid (TB12.out.trans (hb13.mono TB12.out.size)); clear hb13))
          all_goals
            go_wp2
            go_ret
            exact ⟨rfl, TB13.out⟩
end Go.Proofs.Ytpgpnemehbbmpaa
