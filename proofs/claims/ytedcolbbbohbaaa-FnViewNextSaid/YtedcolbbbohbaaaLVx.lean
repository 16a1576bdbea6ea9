/- The walks of the laws on what a view holds. -/
import Derived.Test.YtedcolbbbohbaaaJxB
import Derived.Test.YtedcolbbbohbaaaJxC
import Derived.Test.YtedcolbbbohbaaaLVw
namespace Go.Proofs.Ytedcolbbbohbaaa
open Go.RowKit
attribute [local go_sem ↓] Go.wp_at_zero Go.wp_at_succ
theorem lastV_at {F : Fd} {k x y : Nat} (hx : wk F k = x ∧ ix F k = y) {c : List Int} {key val : Int} (he : (c, key, val) = ent F x y) (z : Int) : lastV F (k + 1) z = if key = z then some val else lastV F k z := by
  have e : ent F (wk F k) (pst F k (wk F k)) = (c, key, val) := by rw [he, ← hx.1, ← hx.2]; rfl
  show (if (ent F (wk F k) (pst F k (wk F k))).2.1 = z then some (ent F (wk F k) (pst F k (wk F k))).2.2 else lastV F k z) = _
  rw [e]
/-- the last value of a key among the first n entries, or -1 -/
noncomputable def lvI (F : Fd) (n : Nat) (key : Int) : Int := match lastV F n key with
  | some v => v
  | none => -1
theorem lvI_next {F : Fd} {k : Nat} {key val z : Int} (h : lastV F (k + 1) z = if key = z then some val else lastV F k z) : lvI F (k + 1) z = if key = z then val else lvI F k z := by
  unfold lvI
  rw [h]
  by_cases e : key = z
  · rw [if_pos e, if_pos e]
  · rw [if_neg e, if_neg e]
theorem vgO_lv {F : Fd} (h : JV F) {n : Nat} (hn : n ≤ tot F) (key : Int) : vgO (lastV F n key) = if lvI F n key < 0 then (0, false) else (lvI F n key, true) := by
  unfold lvI
  cases hl : lastV F n key with
  | some v =>
    have := lastV_key h n hn key v hl
    rw [if_neg (by simp only []; omega)]
    rfl
  | none => rfl
set_option maxRecDepth 100000 in
set_option maxHeartbeats 6400000 in
theorem lawFnViewAt_c (w : World) (v : Value) (n : Nat) (h : RdB w v n) : Calls Try.prog 7 #[v] w fun e w' => e = .returned (.bool true) ∧ Below w.heap.size w w' := by
  have hB := h
  obtain ⟨a, cap, rfl, h1, h2, -⟩ := h
  unfold maxLen at h2
  by_cases hn : 1048576 < n
  · go_enter Try.func7, Try.ntmps7
    go_wp2
    go_ret
    exact ⟨rfl, Below.refl _ _⟩
  · go_enter Try.func7, Try.ntmps7
    go_wp2_with fail
    refine (drawViewAt_c _ n _ hB).mono ?_
    rintro e w1 ⟨v, F, x, rfl, hF, hbd, hx1, hx2⟩
    have HV := Lib.hid hF
    have T := Lib.hid hbd
    clear hF hbd
    obtain ⟨R, hR⟩ : ∃ R, vaL F x = R := ⟨_, rfl⟩
    have HR := Lib.hid hR
    clear hR
    go_wp2_with fail
    refine (viewAt_c F _ x _ HV.out).mono ?_
    rintro e w2 ⟨vo, rfl, hO, hbd⟩
    have HV := Lib.hid (HV.out.below hbd)
    have T := Lib.hid (T.out.trans (hbd.mono T.out.size))
    clear hbd
    rw [HR.out] at hO
    obtain ⟨ao, co, rfl⟩ := own_slice hO
    have HO := Lib.hid hO
    clear hO
    go_wp2_with fail
    refine (specViewAt_c F _ x _ HV.out).mono ?_
    rintro e w3 ⟨vz, rfl, hW, hbd⟩
    have HV := Lib.hid (HV.out.below hbd)
    have HO := Lib.hid (own_below HO.out hbd)
    have T := Lib.hid (T.out.trans (hbd.mono T.out.size))
    clear hbd
    rw [HR.out] at hW
    have HW := Lib.hid hW
    clear hW
    by_cases hok : VaOk F x
    · rw [vaB_t hok]
      go_wp2_with fail
      refine (samePairs_c _ _ _ _ (Rd.of_own HO.out) (Rd.of_own HW.out)).mono ?_
      rintro e w4 ⟨rfl, hbd⟩
      have HV := Lib.hid (HV.out.below hbd)
      have HO := Lib.hid (own_below HO.out hbd)
      have HW := Lib.hid (own_below HW.out hbd)
      have T := Lib.hid (T.out.trans (hbd.mono T.out.size))
      clear hbd
      obtain ⟨m, rfl⟩ := Int.eq_ofNat_of_zero_le hok.2.1
      have HJ := Lib.hid hok.1
      have hmt : m ≤ tot F := by have := hok.2.2; omega
      have ht24 := tot_le hok.1
      have hm24 : m ≤ 24 := by omega
      have HMT := Lib.hid hmt
      have HRV : Hid (R = vw F m) := by show _ = _; rw [← HR.out, vaL_t hok, Int.toNat_natCast]
      have hRm : R.length ≤ m := by rw [HRV.out]; exact vw_len F m
      have hR10 : R.length ≤ 10 := by rw [HRV.out]; exact vw_len10 F m
      clear hok hmt ht24 HW hx1 hx2
      obtain ⟨fa, fm, fc, rfl, hfm, q1, q2⟩ : ∃ a m cap, v = .slice a m cap ∧ m = F.length ∧ m ≤ cap ∧ cap ≤ maxLen := by
        obtain ⟨a, cap, rfl, h1, h2⟩ := HV.out.shape; exact ⟨a, _, cap, rfl, rfl, h1, h2⟩
      unfold maxLen at q2
      have hfm3 : fm = 3 := hfm.trans HJ.out.1
      clear hfm
      subst hfm3
      go_wp2_with fail
      refine (joinOrder_o F _ _ HV.out).mono ?_
      rintro e w5 ⟨ao, QN, Qc, rfl, Qb, Q1, Q2, hQ, hbd⟩
      unfold maxLen at Q2
      have HV := Lib.hid (HV.out.below hbd)
      have HO := Lib.hid (own_below HO.out hbd)
      have T := Lib.hid (T.out.trans (hbd.mono T.out.size))
      clear hbd
      have HQ := Lib.hid hQ
      clear hQ
      have HQN := Lib.hid (HQ.out.tot HJ.out)
      have hmQ : m ≤ QN := by have := HQN.out; have := HMT.out; omega
      go_wp2
      go_loopw [10] (fun i' wr => ∃ j : Nat, j ≤ 10 ∧ i' = .int .i64 j ∧ Hid (Below w5.heap.size w5 wr)) (fun i' _ => 10 - (intOf i').toNat)
      case atStart => exact ⟨0, by omega, rfl, Below.refl _ _⟩
      case round =>
        obtain ⟨j, hj, rfl, HBj⟩ := hrel
        obtain ⟨wi, hwi⟩ : ∃ wi : World, wi = wr := ⟨_, rfl⟩
        by_cases hlt : j < 10
        · have hlt' : (j : Int) < 10 := by omega
          go_wp2
          go_loopw [11, 12] (fun v' i' wr => ∃ k : Nat, k ≤ m ∧ i' = .int .i64 k ∧ v' = .int .i64 (lvI F k j) ∧ Hid (Below wi.heap.size wi wr)) (fun _ i' _ => m - (intOf i').toNat)
          case atStart => exact ⟨0, Nat.zero_le _, rfl, rfl, by subst hwi; exact Below.refl _ _⟩
          case round =>
            subst hwi
            obtain ⟨k, hk, rfl, rfl, HBk⟩ := hrel
            have HBr := Lib.hid (HBj.out.trans (HBk.out.mono HBj.out.size))
            by_cases hkm : k < m
            · have hkm' : (k : Int) < (m : Int) := by omega
              have hkQ : (k : Int) < (QN : Int) := by omega
              obtain ⟨g, o, x, y, rfl, d1, d2, HX, x3, yL⟩ := (HQ.out.below HBr.out).at HJ.out (k := k) (by omega)
              obtain ⟨b5, o5, c5, a6, c6, ev, -, -, q5, q6, q7, qr⟩ := (HV.out.below HBr.out).feed (j := x) (by rw [HJ.out.1]; exact x3)
              rw [HJ.out.1] at ev
              simp only [Value.slice.injEq] at ev
              obtain ⟨rfl, -, rfl⟩ := ev
              unfold maxLen at q7
              have hx3' : (x : Int) < 3 := by omega
              have hyL' : (y : Int) < (ln F x : Int) := by omega
              obtain ⟨b8, o8, e, aB, cB, rfl, he, f2, f3, f4, hrr⟩ := qr.entry yL
              obtain ⟨c, key, val⟩ := e
              simp only [] at f2 f3 f4 hrr
              have HLV := Lib.hid (lastV_at HX.out (show (c, key, val) = ent F x y from he))
              obtain ⟨cl, hcl⟩ : ∃ cl, c.length = cl := ⟨_, rfl⟩
              rw [hcl] at f2
              obtain ⟨L, hL⟩ : ∃ L, ln F x = L := ⟨_, rfl⟩
              rw [hL] at q5 q6 hyL'
              clear hrr he qr hcl hL
              have z1 := World.block_lt_of_cell? wr _ d1
              have z2 := World.block_lt_of_cell? wr _ q5
              have z3 := World.block_lt_of_cell? wr _ f2
              obtain ⟨lv, hlv⟩ : ∃ lv, lvI F k j = lv := ⟨_, rfl⟩
              obtain ⟨lw, hlw⟩ : ∃ lw, lvI F (k + 1) j = lw := ⟨_, rfl⟩
              have hL1 : lw = if key = (j : Int) then val else lv := by rw [← hlw, ← hlv]; exact lvI_next (HLV.out j)
              have HLW := Lib.hid hlw
              rw [hlv]
              clear hlv hlw
              go_wp2
              go_region
              have hb7 : Below wr.heap.size wr (wr.alloc (.cells #[.slice aB cl cB, .int .i64 key, .int .i64 val] 46)).drew := by (repeat' (first | exact Below.refl _ _ | assumption | refine Below.drew ?_ | refine below_drewN ?_ _ | refine Below.alloc ?_ (by omega) _ | refine Below.alloc ?_ (by simp; omega) _ | refine Below.alloc ?_ (by simp) _ | refine Below.setCell ?_ (by omega) _ | refine Below.setCell ?_ (by simp; omega) _ | refine Below.setCell ?_ (by simp) _))
              have HB7 := Lib.hid (HBk.out.trans (hb7.mono HBk.out.size))
              clear hb7 d1 d2 q5 f2 f3 f4
              by_cases hkj : key = (j : Int)
              · subst hkj
                rw [if_pos rfl] at hL1
                subst hL1
                go_wp2
                go_roundw
                case rel => exact ⟨k + 1, by omega, by go_num, by rw [HLW.out], HB7⟩
                case measure => simp [intOf]; omega
              · rw [if_neg hkj] at hL1
                subst hL1
                go_wp2
                go_roundw
                case rel => exact ⟨k + 1, by omega, by go_num, by rw [HLW.out], HB7⟩
                case measure => simp [intOf]; omega
            · obtain rfl : k = m := by omega
              have HO9 := Lib.hid (own_below HO.out HBr.out)
              obtain ⟨lv, hlv⟩ : ∃ lv, lvI F k j = lv := ⟨_, rfl⟩
              have HG : Hid (vg (j : Int) R = if lv < 0 then (0, false) else (lv, true)) := by
                rw [← hlv, HRV.out, vg_vw F k (by omega) hlt']
                exact vgO_lv HJ.out HMT.out _
              rw [hlv]
              clear hlv
              go_wp2_with fail
              refine (viewGet_c _ R (j : Int) _ (Rd.of_own HO9.out)).mono ?_
              rintro e w9 ⟨rfl, hb9⟩
              rw [HG.out]
              have HB9 := Lib.hid (HBr.out.trans (hb9.mono HBr.out.size))
              clear hb9
              by_cases hl0 : lv < 0
              · rw [if_pos hl0]
                have hl1 : ¬ 0 ≤ lv := by omega
                go_wp2
                go_roundw
                case rel => exact ⟨j + 1, by omega, by go_num, HB9⟩
                case measure => simp [intOf]; omega
              · rw [if_neg hl0]
                have hl1 : 0 ≤ lv := by omega
                go_wp2
                go_roundw
                case rel => exact ⟨j + 1, by omega, by go_num, HB9⟩
                case measure => simp [intOf]; omega
        · go_wp2
          go_ret
          exact ⟨rfl, T.out.trans (HBj.out.mono T.out.size)⟩
    · rw [vaB_f hok]
      clear hok
      go_wp2_with fail
      refine (samePairs_c _ _ _ _ (Rd.of_own HO.out) (Rd.of_own HW.out)).mono ?_
      rintro e w4 ⟨rfl, hbd⟩
      have HV := Lib.hid (HV.out.below hbd)
      have HO := Lib.hid (own_below HO.out hbd)
      have HW := Lib.hid (own_below HW.out hbd)
      have T := Lib.hid (T.out.trans (hbd.mono T.out.size))
      clear hbd
      go_wp2_with fail
      refine (samePairs_c _ _ _ _ (Rd.of_own HO.out) (Rd.of_own HW.out)).mono ?_
      rintro e w5 ⟨rfl, hbd⟩
      have HV := Lib.hid (HV.out.below hbd)
      have HO := Lib.hid (own_below HO.out hbd)
      have HW := Lib.hid (own_below HW.out hbd)
      have T := Lib.hid (T.out.trans (hbd.mono T.out.size))
      clear hbd
      go_wp2
      go_ret
      exact ⟨rfl, T.out⟩
set_option maxRecDepth 100000 in
set_option maxHeartbeats 6400000 in
theorem lawFnViewNext_c (w : World) (v : Value) (n : Nat) (h : RdB w v n) : Calls Try.prog 8 #[v] w fun e w' => e = .returned (.bool true) ∧ Below w.heap.size w w' := by
  have hB := h
  obtain ⟨a, cap, rfl, h1, h2, -⟩ := h
  unfold maxLen at h2
  by_cases hn : 1048576 < n
  · go_enter Try.func8, Try.ntmps8
    go_wp2
    go_ret
    exact ⟨rfl, Below.refl _ _⟩
  · go_enter Try.func8, Try.ntmps8
    go_wp2_with fail
    refine (drawViewAt_c _ n _ hB).mono ?_
    rintro e w1 ⟨v, F, x, rfl, hF, hbd, hx1, hx2⟩
    have HV := Lib.hid hF
    have T := Lib.hid hbd
    clear hF hbd
    obtain ⟨R, hR⟩ : ∃ R, vaL F x = R := ⟨_, rfl⟩
    have HR := Lib.hid hR
    clear hR
    go_wp2_with fail
    refine (viewAt_c F _ x _ HV.out).mono ?_
    rintro e w2 ⟨vo, rfl, hO, hbd⟩
    have HV := Lib.hid (HV.out.below hbd)
    have T := Lib.hid (T.out.trans (hbd.mono T.out.size))
    clear hbd
    rw [HR.out] at hO
    obtain ⟨ao, co, rfl⟩ := own_slice hO
    have HO := Lib.hid hO
    clear hO
    go_wp2_with fail
    refine (specViewAt_c F _ x _ HV.out).mono ?_
    rintro e w3 ⟨vz, rfl, hW, hbd⟩
    have HV := Lib.hid (HV.out.below hbd)
    have HO := Lib.hid (own_below HO.out hbd)
    have T := Lib.hid (T.out.trans (hbd.mono T.out.size))
    clear hbd
    rw [HR.out] at hW
    have HW := Lib.hid hW
    clear hW
    by_cases hok : VaOk F x
    · rw [vaB_t hok]
      go_wp2_with fail
      refine (samePairs_c _ _ _ _ (Rd.of_own HO.out) (Rd.of_own HW.out)).mono ?_
      rintro e w4 ⟨rfl, hbd⟩
      have HV := Lib.hid (HV.out.below hbd)
      have HO := Lib.hid (own_below HO.out hbd)
      have HW := Lib.hid (own_below HW.out hbd)
      have T := Lib.hid (T.out.trans (hbd.mono T.out.size))
      clear hbd
      obtain ⟨m, rfl⟩ := Int.eq_ofNat_of_zero_le hok.2.1
      have HJ := Lib.hid hok.1
      have hmt : m ≤ tot F := by have := hok.2.2; omega
      have ht24 := tot_le hok.1
      have hm24 : m ≤ 24 := by omega
      have HMT := Lib.hid hmt
      have HRV : Hid (R = vw F m) := by show _ = _; rw [← HR.out, vaL_t hok, Int.toNat_natCast]
      have hRm : R.length ≤ m := by rw [HRV.out]; exact vw_len F m
      have hR10 : R.length ≤ 10 := by rw [HRV.out]; exact vw_len10 F m
      clear hok hmt ht24 HW hx1 hx2
      obtain ⟨fa, fm, fc, rfl, hfm, q1, q2⟩ : ∃ a m cap, v = .slice a m cap ∧ m = F.length ∧ m ≤ cap ∧ cap ≤ maxLen := by
        obtain ⟨a, cap, rfl, h1, h2⟩ := HV.out.shape; exact ⟨a, _, cap, rfl, rfl, h1, h2⟩
      unfold maxLen at q2
      have hfm3 : fm = 3 := hfm.trans HJ.out.1
      clear hfm
      subst hfm3
      go_wp2_with fail
      refine (joinOrder_o F _ _ HV.out).mono ?_
      rintro e w5 ⟨ao, QN, Qc, rfl, Qb, Q1, Q2, hQ, hbd⟩
      unfold maxLen at Q2
      have HV := Lib.hid (HV.out.below hbd)
      have HO := Lib.hid (own_below HO.out hbd)
      have T := Lib.hid (T.out.trans (hbd.mono T.out.size))
      clear hbd
      have HQ := Lib.hid hQ
      clear hQ
      have HQN := Lib.hid (HQ.out.tot HJ.out)
      have hmQ : m ≤ QN := by have := HQN.out; have := HMT.out; omega
      have hw1 : IntKind.i64.wrap ((m : Int) + 1) = ((m + 1 : Nat) : Int) := by rw [IntKind.wrap_i64]; omega
      go_wp2_with fail
      refine (viewAt_c F _ ((m + 1 : Nat) : Int) _ HV.out).mono ?_
      rintro e w6 ⟨vx, rfl, hX, hbd⟩
      have HV := Lib.hid (HV.out.below hbd)
      have HO := Lib.hid (own_below HO.out hbd)
      have HQ := Lib.hid (HQ.out.below hbd)
      have T := Lib.hid (T.out.trans (hbd.mono T.out.size))
      clear hbd
      clear hw1
      by_cases hmN : m = QN
      · have hno : ¬ VaOk F ((m + 1 : Nat) : Int) := fun hh => by have h1 := hh.2.2; have := HQN.out; omega
        rw [vaB_f hno]
        clear hno hX
        subst hmN
        go_wp2
        go_ret
        exact ⟨rfl, T.out⟩
      · have hok1 : VaOk F ((m + 1 : Nat) : Int) := ⟨HJ.out, by omega, by have := HQN.out; omega⟩
        rw [vaB_t hok1]
        rw [vaL_t hok1, Int.toNat_natCast] at hX
        obtain ⟨RX, hRX⟩ : ∃ RX, vw F (m + 1) = RX := ⟨_, rfl⟩
        rw [hRX] at hX
        have HRX := Lib.hid hRX
        have HXo := Lib.hid hX
        clear hRX hX hok1
        have hmQ' : m < QN := by omega
        have hmQI : (m : Int) < (QN : Int) := by omega
        have hbq : ((m : Int) == (QN : Int)) = false := by rw [beq_eq_false_iff_ne]; omega
        have HB0 : Hid (Below w6.heap.size w6 w6) := Below.refl _ _
        obtain ⟨g, o, x, y, rfl, d1, d2, HX, x3, yL⟩ := (HQ.out.below HB0.out).at HJ.out (k := m) hmQ'
        obtain ⟨b5, o5, c5, a6, c6, ev, -, -, q5, q6, q7, qr⟩ := (HV.out.below HB0.out).feed (j := x) (by rw [HJ.out.1]; exact x3)
        rw [HJ.out.1] at ev
        simp only [Value.slice.injEq] at ev
        obtain ⟨rfl, -, rfl⟩ := ev
        unfold maxLen at q7
        have hx3' : (x : Int) < 3 := by omega
        have hyL' : (y : Int) < (ln F x : Int) := by omega
        obtain ⟨b8, o8, e, aB, cB, rfl, he, f2, f3, f4, hrr⟩ := qr.entry yL
        obtain ⟨c, key, val⟩ := e
        simp only [] at f2 f3 f4 hrr
        have HLV := Lib.hid (lastV_at HX.out (show (c, key, val) = ent F x y from he))
        obtain ⟨cl, hcl⟩ : ∃ cl, c.length = cl := ⟨_, rfl⟩
        rw [hcl] at f2
        obtain ⟨L, hL⟩ : ∃ L, ln F x = L := ⟨_, rfl⟩
        rw [hL] at q5 q6 hyL'
        clear hrr he qr hcl hL
        have z1 := World.block_lt_of_cell? w6 _ d1
        have z2 := World.block_lt_of_cell? w6 _ q5
        have z3 := World.block_lt_of_cell? w6 _ f2
        go_wp2
        go_region
        obtain ⟨w7, hw7⟩ : ∃ w7, w7 = (w6.alloc (.cells #[.slice aB cl cB, .int .i64 key, .int .i64 val] 46)).drew := ⟨_, rfl⟩
        rw [← hw7]
        have hb7 : Below w6.heap.size w6 w7 := by rw [hw7]; (repeat' (first | exact Below.refl _ _ | assumption | refine Below.drew ?_ | refine below_drewN ?_ _ | refine Below.alloc ?_ (by omega) _ | refine Below.alloc ?_ (by simp; omega) _ | refine Below.alloc ?_ (by simp) _ | refine Below.setCell ?_ (by omega) _ | refine Below.setCell ?_ (by simp; omega) _ | refine Below.setCell ?_ (by simp) _))
        have e1 : w7.cell? ⟨w6.heap.size, 1, none⟩ = some (.int .i64 key) := by rw [hw7]; simp
        have e2 : w7.cell? ⟨w6.heap.size, 2, none⟩ = some (.int .i64 val) := by rw [hw7]; simp
        obtain ⟨be, hbe⟩ : ∃ be, w6.heap.size = be := ⟨_, rfl⟩
        have HO7 := Lib.hid (own_below HO.out hb7)
        have HX7 := Lib.hid (own_below HXo.out hb7)
        have T7 := Lib.hid (T.out.trans (hb7.mono T.out.size))
        rw [hbe] at e1 e2 ⊢
        have HE1 := Lib.hid e1
        have HE2 := Lib.hid e2
        clear hb7 d1 d2 q5 f2 f3 f4 e1 e2 hw7 z1 z2 z3 hbe
        go_wp2
        go_loopw [13] (fun i' wr => ∃ j : Nat, j ≤ 10 ∧ i' = .int .i64 j ∧ Hid (Below w7.heap.size w7 wr)) (fun i' _ => 10 - (intOf i').toNat)
        case atStart => exact ⟨0, by omega, rfl, Below.refl _ _⟩
        case round =>
          obtain ⟨j, hj, rfl, HBj⟩ := hrel
          by_cases hlt : j < 10
          · have hlt' : (j : Int) < 10 := by omega
            have HO8 := Lib.hid (own_below HO7.out HBj.out)
            have HG : Hid (vg (j : Int) R = vgO (lastV F m j)) := by show _ = _; rw [HRV.out, vg_vw F m (by omega) hlt']
            have HG2 : Hid (vg (j : Int) RX = vgO (if key = (j : Int) then some val else lastV F m j)) := by show _ = _; rw [← HRX.out, vg_vw F (m + 1) (by omega) hlt', HLV.out]
            go_wp2_with fail
            refine (viewGet_c _ R (j : Int) _ (Rd.of_own HO8.out)).mono ?_
            rintro e w9 ⟨rfl, hb9⟩
            rw [HG.out]
            have HB9 := Lib.hid (HBj.out.trans (hb9.mono HBj.out.size))
            have HX9 := Lib.hid (own_below HX7.out HB9.out)
            clear hb9
            obtain ⟨⟨p, q⟩, hpq⟩ : ∃ pq, vgO (lastV F m j) = pq := ⟨_, rfl⟩
            rw [hpq]
            go_wp2_with fail
            refine (viewGet_c _ RX (j : Int) _ (Rd.of_own HX9.out)).mono ?_
            rintro e wA ⟨rfl, hbA⟩
            rw [HG2.out]
            have HBA := Lib.hid (HB9.out.trans (hbA.mono HB9.out.size))
            have f1 := cell_keep HBA.out HE1.out
            have f2 := cell_keep HBA.out HE2.out
            clear hbA
            by_cases hkj : key = (j : Int)
            · rw [if_pos hkj]
              subst hkj
              have hv : vgO (some val) = (val, true) := rfl
              rw [hv]
              clear hv hpq
              go_wp2
              go_roundw
              case rel => first | exact ⟨j + 1, by omega, by go_num, HBA⟩ | ((repeat apply Exists.intro); exact ⟨⟨j + 1, by omega, by go_num, HBA⟩, rfl⟩)
              case measure => simp [intOf]; omega
            · rw [if_neg hkj, hpq]
              clear hpq
              have hkj' : ¬ ((j : Int) = key) := fun e => hkj e.symm
              cases q
              all_goals
                go_wp2
                go_roundw
                case rel => first | exact ⟨j + 1, by omega, by go_num, HBA⟩ | ((repeat apply Exists.intro); exact ⟨⟨j + 1, by omega, by go_num, HBA⟩, rfl⟩)
                case measure => simp [intOf]; omega
          · go_wp2
            go_ret
            exact ⟨rfl, T7.out.trans (HBj.out.mono T7.out.size)⟩
    · rw [vaB_f hok]
      clear hok
      go_wp2_with fail
      refine (samePairs_c _ _ _ _ (Rd.of_own HO.out) (Rd.of_own HW.out)).mono ?_
      rintro e w4 ⟨rfl, hbd⟩
      have HV := Lib.hid (HV.out.below hbd)
      have HO := Lib.hid (own_below HO.out hbd)
      have HW := Lib.hid (own_below HW.out hbd)
      have T := Lib.hid (T.out.trans (hbd.mono T.out.size))
      clear hbd
      go_wp2_with fail
      refine (samePairs_c _ _ _ _ (Rd.of_own HO.out) (Rd.of_own HW.out)).mono ?_
      rintro e w5 ⟨rfl, hbd⟩
      have HV := Lib.hid (HV.out.below hbd)
      have HO := Lib.hid (own_below HO.out hbd)
      have HW := Lib.hid (own_below HW.out hbd)
      have T := Lib.hid (T.out.trans (hbd.mono T.out.size))
      clear hbd
      go_wp2
      go_ret
      exact ⟨rfl, T.out⟩
end Go.Proofs.Ytedcolbbbohbaaa
