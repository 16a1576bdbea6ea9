/- The walks of the laws on what is stable. -/
import Derived.Test.YtpgpnemehbbmpaaLJw
namespace Go.Proofs.Ytpgpnemehbbmpaa
open Go.RowKit
attribute [local go_sem ↓] Go.wp_at_zero Go.wp_at_succ
set_option maxRecDepth 100000 in
set_option maxHeartbeats 6400000 in
theorem lawFnStableMost_c (w : World) (v : Value) (n : Nat) (h : RdB w v n) : Calls Try.prog 16 #[v] w fun e w' => e = .returned (.bool true) ∧ Below w.heap.size w w' := by
  have hB := h
  obtain ⟨a, cap, rfl, h1, h2, -⟩ := h
  unfold maxLen at h2
  by_cases hn : 1048576 < n
  · go_enter Try.func16, Try.ntmps16
    go_wp2
    go_ret
    exact ⟨rfl, Below.refl _ _⟩
  · go_enter Try.func16, Try.ntmps16
    go_wp2_with fail
    refine (drawJoinStable_c _ n _ hB).mono ?_
    rintro e w1 ⟨v, F, rfl, hF, hbd⟩
    have HV := Lib.hid hF
    have T := Lib.hid hbd
    clear hF hbd
    go_wp2_with fail
    refine (joinStable_c F _ _ HV.out).mono ?_
    rintro e w2 ⟨rfl, hbd⟩
    have HV := Lib.hid (HV.out.below hbd)
    have T := Lib.hid (T.out.trans (hbd.mono T.out.size))
    clear hbd
    go_wp2_with fail
    refine (specJoinStable_c F _ _ HV.out).mono ?_
    rintro e w3 ⟨rfl, hbd⟩
    have HV := Lib.hid (HV.out.below hbd)
    have T := Lib.hid (T.out.trans (hbd.mono T.out.size))
    clear hbd
    by_cases hj : JV F
    · rw [jsv_t hj]
      have HJ := Lib.hid hj
      clear hj
      obtain ⟨a0, m0, cap0, rfl, hm0, q1, q2⟩ := shape3 HV.out
      unfold maxLen at q2
      have hm3 : m0 = 3 := hm0.trans HJ.out.1
      clear hm0
      subst hm3
      obtain ⟨st, hst⟩ : ∃ st, stv F = st := ⟨_, rfl⟩
      have hst24 : st ≤ 24 := by rw [← hst]; exact Nat.le_trans (stv_le F) (tot_le HJ.out)
      have HST := Lib.hid hst
      rw [hst]
      clear hst
      go_wp2
      go_loopw [6] (fun v' wr => ∃ v : Nat, v ≤ 3 ∧ v' = .int .i64 v ∧ Hid (Below w3.heap.size w3 wr)) (fun v' _ => 3 - (intOf v').toNat)
      case atStart => exact ⟨0, Nat.zero_le _, rfl, Below.refl _ _⟩
      case round =>
        obtain ⟨v, hv, rfl, HBr⟩ := hrel
        by_cases hlt : v < 3
        · have hlt' : (v : Int) < 3 := by omega
          obtain ⟨b5, o5, c5, a6, c6, ev, -, -, q5, q6, q7, -⟩ := (HV.out.below HBr.out).feed (j := v) (by rw [HJ.out.1]; exact hlt)
          rw [HJ.out.1] at ev
          simp only [Value.slice.injEq] at ev
          obtain ⟨rfl, -, rfl⟩ := ev
          unfold maxLen at q7
          have h8 := HJ.out.2.1 v hlt
          obtain ⟨L, hL⟩ : ∃ L, ln F v = L := ⟨_, rfl⟩
          rw [hL] at q5 q6 h8
          have HL := Lib.hid hL
          clear hL
          by_cases he : L = 0
          · subst he
            have hs0 : st = 0 := by rw [← HST.out]; exact stv_none hlt HL.out
            subst hs0
            go_wp2
            go_roundw
            case rel => exact ⟨v + 1, by omega, by go_num, HBr⟩
            case measure => simp [intOf]; omega
          · have hee : ((L : Int) == 0) = false := by rw [beq_eq_false_iff_ne]; omega
            go_wp2
            go_roundw
            case rel => exact ⟨v + 1, by omega, by go_num, HBr⟩
            case measure => simp [intOf]; omega
        · have HBW := Lib.hid (T.out.trans (HBr.out.mono T.out.size))
          go_wp2_with fail
          refine (joinOrder_o F _ _ (HV.out.below HBr.out)).mono ?_
          rintro e w9 ⟨ao, ON, Oc, rfl, Ob, O1, O2, hO, hbd⟩
          unfold maxLen at O2
          have hle : (st : Int) ≤ (ON : Int) := by
            have h1 := hO.tot HJ.out
            have h2 := stv_le F
            rw [HST.out] at h2
            omega
          have hleN : st ≤ ON := by omega
          have HB9 := Lib.hid (HBW.out.trans (hbd.mono HBW.out.size))
          clear hO hbd
          go_wp2
          go_ret
          exact ⟨rfl, HB9.out⟩
    · rw [jsv_f hj]
      clear hj
      go_wp2
      go_ret
      exact ⟨rfl, T.out⟩
set_option maxRecDepth 100000 in
set_option maxHeartbeats 6400000 in
theorem lawFnStable_c (w : World) (v : Value) (n : Nat) (h : RdB w v n) : Calls Try.prog 15 #[v] w fun e w' => e = .returned (.bool true) ∧ Below w.heap.size w w' := by
  have hB := h
  obtain ⟨a, cap, rfl, h1, h2, -⟩ := h
  unfold maxLen at h2
  by_cases hn : 1048576 < n
  · go_enter Try.func15, Try.ntmps15
    go_wp2
    go_ret
    exact ⟨rfl, Below.refl _ _⟩
  · go_enter Try.func15, Try.ntmps15
    go_wp2_with fail
    refine (drawJoinStable_c _ n _ hB).mono ?_
    rintro e w1 ⟨v, F, rfl, hF, hbd⟩
    have HV := Lib.hid hF
    have T := Lib.hid hbd
    clear hF hbd
    go_wp2_with fail
    refine (joinStable_c F _ _ HV.out).mono ?_
    rintro e w2 ⟨rfl, hbd⟩
    have HV := Lib.hid (HV.out.below hbd)
    have T := Lib.hid (T.out.trans (hbd.mono T.out.size))
    clear hbd
    go_wp2_with fail
    refine (specJoinStable_c F _ _ HV.out).mono ?_
    rintro e w3 ⟨rfl, hbd⟩
    have HV := Lib.hid (HV.out.below hbd)
    have T := Lib.hid (T.out.trans (hbd.mono T.out.size))
    clear hbd
    by_cases hj : JV F
    · rw [jsv_t hj]
      have HJ := Lib.hid hj
      clear hj
      go_wp2_with fail
      refine (joinOrder_o F _ _ HV.out).mono ?_
      rintro e w4 ⟨ao, ON, Oc, rfl, Ob, O1, O2, hO, hbd⟩
      unfold maxLen at O2
      have HV := Lib.hid (HV.out.below hbd)
      have T := Lib.hid (T.out.trans (hbd.mono T.out.size))
      clear hbd
      have HO := Lib.hid hO
      clear hO
      obtain ⟨a0, m0, cap0, rfl, hm0, q1, q2⟩ := shape3 HV.out
      unfold maxLen at q2
      have hN := Lib.hid (HO.out.tot HJ.out)
      have hm3 : m0 = 3 := hm0.trans HJ.out.1
      clear hm0
      subst hm3
      go_wp2
      go_loopw [7, 8] (fun l' i' wr => ∃ i : Nat, i ≤ ON ∧ l' = .int .i64 (stN F i : Nat) ∧ i' = .int .i64 i ∧ Hid (Below w4.heap.size w4 wr)) (fun _ i' _ => ON - (intOf i').toNat)
      case atStart => exact ⟨0, Nat.zero_le _, rfl, rfl, Below.refl _ _⟩
      case round =>
        obtain ⟨i, hi, rfl, rfl, HBi⟩ := hrel
        obtain ⟨wi, hwi⟩ : ∃ wi : World, wi = wr := ⟨_, rfl⟩
        by_cases hlt : i < ON
        · obtain ⟨g, o, x, y, rfl, d1, d2, HX, x3, yL⟩ := (HO.out.below HBi.out).at HJ.out (k := i) (by omega)
          have hx3' : (x : Int) < 3 := by omega
          have hst : Hid (Stb F x y → stN F (i + 1) = i + 1) := fun hs => stN_t (by rw [show pst F i (wk F i) = y from HX.out.2, HX.out.1]; exact hs)
          have hsf : Hid (¬ Stb F x y → stN F (i + 1) = stN F i) := fun hs => stN_f (by rw [show pst F i (wk F i) = y from HX.out.2, HX.out.1]; exact hs)
          obtain ⟨z, hz⟩ : ∃ z, stN F i = z := ⟨_, rfl⟩
          have HZ := Lib.hid hz
          rw [hz]
          have D := Lib.hid (And.intro d1 d2)
          clear hz d1 d2
          go_wp2
          go_loopw [9, 10] (fun k' v' wr => ∃ (v : Nat) (b : Bool), v ≤ 3 ∧ v' = .int .i64 v ∧ k' = .bool b ∧ Hid (Below wi.heap.size wi wr) ∧ Hid (b = true ↔ ∀ u, u < v → Stb1 F x y u)) (fun _ v' _ => 3 - (intOf v').toNat)
          case atStart => exact ⟨0, true, Nat.zero_le _, rfl, rfl, by subst hwi; exact Below.refl _ _, ⟨fun _ u hu => absurd hu (Nat.not_lt_zero _), fun _ => rfl⟩⟩
          case round =>
            subst hwi
            obtain ⟨v, b, hv, rfl, rfl, HBk, HY⟩ := hrel
            obtain ⟨wo, rfl⟩ : ∃ wo : World, wo = wr := ⟨_, rfl⟩
            have HBr := Lib.hid (HBi.out.trans (HBk.out.mono HBi.out.size))
            by_cases hv3 : v < 3
            · have hlt' : (v : Int) < 3 := by omega
              have d1 := cell_keep HBk.out D.out.1
              have d2 := cell_keep HBk.out D.out.2
              have FIN : Hid (∀ (c : Bool) (n : Nat), (c = true ↔ (b = true ∧ Stb1 F x y v)) → Hid (Below wi.heap.size wi (wo.drewN n)) ∧ Hid (c = true ↔ ∀ u, u < v + 1 → Stb1 F x y u)) := fun c n hc =>
                ⟨by have := HBk.out; show Below _ _ _; (repeat' (first | exact Below.refl _ _ | assumption | refine Below.drew ?_ | refine below_drewN ?_ _ | refine Below.alloc ?_ (by omega) _ | refine Below.alloc ?_ (by simp; omega) _ | refine Below.alloc ?_ (by simp) _ | refine Below.setCell ?_ (by omega) _ | refine Below.setCell ?_ (by simp; omega) _ | refine Below.setCell ?_ (by simp) _)), all_step HY.out hc⟩
              obtain ⟨b5, o5, c5, a6, c6, ev, -, -, q5, q6, q7, -⟩ := (HV.out.below HBr.out).feed (j := v) (by rw [HJ.out.1]; exact hv3)
              rw [HJ.out.1] at ev
              simp only [Value.slice.injEq] at ev
              obtain ⟨rfl, -, rfl⟩ := ev
              unfold maxLen at q7
              have h8 := HJ.out.2.1 v hv3
              obtain ⟨L, hL⟩ : ∃ L, ln F v = L := ⟨_, rfl⟩
              rw [hL] at q5 q6 h8
              have HL := Lib.hid hL
              clear hL
              cases b with
              | false =>
                go_wp2
                go_quiet (fail)
                go_wp2
                go_roundw
                case rel => exact ⟨v + 1, false, by omega, by go_num, rfl, FIN.out false _ (by simp)⟩
                case measure => simp [intOf]; omega
              | true =>
                by_cases he : L = 0
                · subst he
                  have hns : Hid (¬ Stb1 F x y v) := fun hh => by have := hh.1; have := HL.out; omega
                  go_wp2
                  go_quiet (fail)
                  go_wp2
                  go_roundw
                  case rel => exact ⟨v + 1, false, by omega, by go_num, rfl, FIN.out false _ (by simp [hns.out])⟩
                  case measure => simp [intOf]; omega
                · have hL0 : 0 < L := by omega
                  have hL0' : (0 : Int) < (L : Int) := by omega
                  obtain ⟨n, hn⟩ : ∃ n, L = n + 1 := ⟨L - 1, by omega⟩
                  have hwr : IntKind.i64.wrap ((L : Int) - 1) = (n : Int) := by rw [IntKind.wrap_i64]; omega
                  have HLn := Lib.hid hn
                  by_cases hvw : v = x
                  · have hvw' : ((v : Int) == (x : Int)) = true := by rw [beq_iff_eq]; omega
                    have hss : Hid (Stb1 F x y v) := ⟨by have := HL.out; omega, .inl hvw⟩
                    clear hvw he hn
                    go_wp2
                    go_quiet (fail)
                    go_wp2
                    go_roundw
                    case rel => exact ⟨v + 1, true, by omega, by go_num, rfl, FIN.out true _ (by simp [hss.out])⟩
                    case measure => simp [intOf]; omega
                  · have hvw' : ((v : Int) == (x : Int)) = false := by rw [beq_eq_false_iff_ne]; omega
                    have HVW := Lib.hid hvw
                    obtain ⟨b8, o8, c8, bA, oA, cA, aB, cB, ev, -, -, e1, -, -, e2, -, -, hrr⟩ := (HV.out.below HBr.out).entry (j := v) (i := n) (by rw [HJ.out.1]; exact hv3) (by rw [HL.out, HLn.out]; omega)
                    rw [HJ.out.1] at ev
                    simp only [Value.slice.injEq, Option.some.injEq, Addr.mk.injEq, and_true] at ev
                    obtain ⟨⟨rfl, rfl⟩, -, rfl⟩ := ev
                    rw [q5] at e1
                    simp only [Option.some.injEq, Value.slice.injEq] at e1
                    obtain ⟨rfl, -, rfl⟩ := e1
                    have hLc := (HJ.out.2.2.1 v hv3 n (by rw [HL.out, HLn.out]; omega)).1
                    obtain ⟨b9, o9, c9, t, ev, -, m9, e3, HYY⟩ := hrr.num' hLc x3
                    rw [hLc] at e2
                    rw [hLc] at ev
                    simp only [Value.slice.injEq] at ev
                    obtain ⟨rfl, -, rfl⟩ := ev
                    unfold maxLen at m9
                    have hnL : (n : Int) < (L : Int) := by omega
                    have HS1 : Hid (Stb1 F x y v ↔ (y : Int) < t) := by
                      have hc : ck F v n x = t := HYY.out
                      have h2 : ln F v - 1 = n := by rw [HL.out, HLn.out]; omega
                      constructor
                      · rintro ⟨-, h | h⟩
                        · exact absurd h HVW.out
                        · rw [h2, hc] at h; exact h
                      · intro h; exact ⟨by rw [HL.out]; exact hL0, .inr (by rw [h2, hc]; exact h)⟩
                    clear hrr hLc hvw he hn
                    obtain ⟨c, hc⟩ : ∃ c, decide ((y : Int) < t) = c := ⟨_, rfl⟩
                    have HCC := Lib.hid hc
                    clear hc
                    go_wp2
                    go_quiet (fail)
                    go_wp2
                    go_roundw
                    case rel => exact ⟨v + 1, _, by omega, by go_num, rfl, FIN.out _ _ (by rw [HS1.out]; simp)⟩
                    case measure => simp [intOf]; omega
            · obtain rfl : v = 3 := by omega
              have HST : Hid (b = true ↔ Stb F x y) := HY.out
              cases b with
              | false =>
                have HK := Lib.hid ((hsf.out (fun hs => by have := HST.out.2 hs; cases this)).trans HZ.out)
                go_wp2
                go_roundw
                case rel => exact ⟨i + 1, by omega, by rw [HK.out], by go_num, HBr⟩
                case measure => simp [intOf]; omega
              | true =>
                have HK := Lib.hid (hst.out (HST.out.1 rfl))
                have hiw : IntKind.i64.wrap ((i : Int) + 1) = (i : Int) + 1 := by rw [IntKind.wrap_i64]; omega
                go_wp2
                go_roundw
                case rel => exact ⟨i + 1, by omega, by rw [HK.out]; go_num, by go_num, HBr⟩
                case measure => simp [intOf]; omega
        · obtain rfl : i = ON := by omega
          have hE : stN F i = stv F := by rw [show stv F = stN F (tot F) from rfl, hN.out]
          rw [hE]
          go_wp2
          go_ret
          exact ⟨rfl, T.out.trans (HBi.out.mono T.out.size)⟩
    · rw [jsv_f hj]
      clear hj
      go_wp2
      go_ret
      exact ⟨rfl, T.out⟩
end Go.Proofs.Ytpgpnemehbbmpaa
