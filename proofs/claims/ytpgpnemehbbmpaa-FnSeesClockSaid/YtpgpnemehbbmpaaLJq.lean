/- The walk of the law FnSeesClock. -/
import Derived.Test.YtpgpnemehbbmpaaLJs
import Derived.Test.YtpgpnemehbbmpaaSub
namespace Go.Proofs.Ytpgpnemehbbmpaa
open Go.RowKit
attribute [local go_sem ↓] Go.wp_at_zero Go.wp_at_succ
set_option maxRecDepth 100000 in
set_option maxHeartbeats 6400000 in
theorem lawFnSeesClock_c (w : World) (v : Value) (n : Nat) (h : RdB w v n) : Calls Try.prog 6 #[v] w fun e w' => e = .returned (.bool true) ∧ Below w.heap.size w w' := by
  have hB := h
  obtain ⟨a, cap, rfl, h1, h2, -⟩ := h
  unfold maxLen at h2
  by_cases hn : 1048576 < n
  · go_enter Try.func6, Try.ntmps6
    go_wp2
    go_ret
    exact ⟨rfl, Below.refl _ _⟩
  · go_enter Try.func6, Try.ntmps6
    go_wp2_with fail
    refine (drawJoinSees_c _ n _ hB).mono ?_
    rintro e w1 ⟨v, F, a0, a1, b0, b1, rfl, hF, ha, hb, hbd⟩
    obtain ⟨ha0, ha1, ha2, ha3⟩ := ha
    obtain ⟨hb0, hb1, hb2, hb3⟩ := hb
    have HV := Lib.hid hF
    have T := Lib.hid hbd
    clear hF hbd
    obtain ⟨wc, hwc⟩ : ∃ wc, wc = (w1.alloc (.cells #[.int .i64 a0, .int .i64 a1] 32)).alloc (.cells #[.int .i64 b0, .int .i64 b1] 32) := ⟨_, rfl⟩
    have hbc : Below w1.heap.size w1 wc := by rw [hwc]; (repeat' (first | exact Below.refl _ _ | assumption | refine Below.drew ?_ | refine below_drewN ?_ _ | refine Below.alloc ?_ (by omega) _ | refine Below.alloc ?_ (by simp; omega) _ | refine Below.alloc ?_ (by simp) _ | refine Below.setCell ?_ (by omega) _ | refine Below.setCell ?_ (by simp; omega) _ | refine Below.setCell ?_ (by simp) _))
    have A0 : Hid (wc.cell? ⟨w1.heap.size, 0, none⟩ = some (.int .i64 a0)) := by show _ = _; rw [hwc]; simp
    have A1 : Hid (wc.cell? ⟨w1.heap.size, 1, none⟩ = some (.int .i64 a1)) := by show _ = _; rw [hwc]; simp
    have B0 : Hid (wc.cell? ⟨w1.heap.size + 1, 0, none⟩ = some (.int .i64 b0)) := by show _ = _; rw [hwc]; simp
    have B1 : Hid (wc.cell? ⟨w1.heap.size + 1, 1, none⟩ = some (.int .i64 b1)) := by show _ = _; rw [hwc]; simp
    have HWC := Lib.hid hwc
    clear hwc
    have HV := Lib.hid (HV.out.below hbc)
    have T := Lib.hid (T.out.trans (hbc.mono T.out.size))
    clear hbc
    go_wp2_with fail
    rw [← HWC.out]
    refine (joinSees_c F _ a0 a1 b0 b1 _ HV.out).mono ?_
    rintro e w2 ⟨rfl, hbd⟩
    have HV := Lib.hid (HV.out.below hbd)
    have A0 := Lib.hid (cell_keep hbd A0.out)
    have A1 := Lib.hid (cell_keep hbd A1.out)
    have B0 := Lib.hid (cell_keep hbd B0.out)
    have B1 := Lib.hid (cell_keep hbd B1.out)
    have T := Lib.hid (T.out.trans (hbd.mono T.out.size))
    clear hbd
    have x0 := A0.out
    have x1 := A1.out
    have y0 := B0.out
    have y1 := B1.out
    go_wp2_with fail
    refine (specJoinSees_c F _ a0 a1 b0 b1 _ HV.out).mono ?_
    rintro e w3 ⟨rfl, hbd⟩
    clear x0 x1 y0 y1
    have HV := Lib.hid (HV.out.below hbd)
    have A0 := Lib.hid (cell_keep hbd A0.out)
    have A1 := Lib.hid (cell_keep hbd A1.out)
    have B0 := Lib.hid (cell_keep hbd B0.out)
    have B1 := Lib.hid (cell_keep hbd B1.out)
    have T := Lib.hid (T.out.trans (hbd.mono T.out.size))
    clear hbd
    have x0 := A0.out
    have x1 := A1.out
    have y0 := B0.out
    have y1 := B1.out
    by_cases hj : JV F
    · have HJ := Lib.hid hj
      have hjv := jvB_t hj
      obtain ⟨x, rfl⟩ := Int.eq_ofNat_of_zero_le ha0
      obtain ⟨i, rfl⟩ := Int.eq_ofNat_of_zero_le ha2
      obtain ⟨y, rfl⟩ := Int.eq_ofNat_of_zero_le hb0
      obtain ⟨k, rfl⟩ := Int.eq_ofNat_of_zero_le hb2
      have hx3 : x < 3 := by omega
      have hy3 : y < 3 := by omega
      obtain ⟨b5, o5, cv, a6, c6, hv, m1, m2, r0, m3, m4, -⟩ := HV.out.feed (j := x) (by rw [hj.1]; exact hx3)
      obtain ⟨b6, o6, cv', a7, c7, ev, -, -, r1, m5, m6, -⟩ := HV.out.feed (j := y) (by rw [hj.1]; exact hy3)
      rw [hv] at ev
      simp only [Value.slice.injEq, Option.some.injEq, Addr.mk.injEq, and_true] at ev
      obtain ⟨⟨rfl, rfl⟩, -, rfl⟩ := ev
      rw [hj.1] at hv m1
      subst hv
      unfold maxLen at m2 m4 m6
      have hx3' : (x : Int) < 3 := by omega
      have hy3' : (y : Int) < 3 := by omega
      have z0 := fun (x : Sub w3) => x.cell x0
      have z1 := fun (x : Sub w3) => x.cell x1
      have z2 := fun (x : Sub w3) => x.cell y0
      have z3 := fun (x : Sub w3) => x.cell y1
      have z4 := fun (x : Sub w3) => x.cell r0
      have z5 := fun (x : Sub w3) => x.cell r1
      by_cases hab : x = y ∧ i = k
      · obtain ⟨rfl, rfl⟩ := hab
        obtain ⟨q, hq⟩ : ∃ q, jsB F x i x i = q := ⟨_, rfl⟩
        rw [hq]
        clear hq hj
        cases q
        all_goals
          go_wp2
          refine wp_region_sub (by kernel_rfl) (by kernel_rfl) ?_
          repeat (go_big_quiet_step (exact Calls.sub (v := .bool true) (fun w hb => by have := specJoinValid_c F _ w (HV.out.below hb); rwa [hjv] at this)))
          refine wpQuiet_nil ?_
          rintro _ ⟨xs, rfl⟩
          have HX := Lib.hid xs.b
          go_wp2
          go_ret
          exact ⟨rfl, T.out.trans (HX.out.mono T.out.size)⟩
      · have HQJ := Lib.hid (fun h1 h2 => jsB_in (w := x) (i := i) (v := y) (k := k) hj h1 h2)
        obtain ⟨q, hq⟩ : ∃ q, jsB F x i y k = q := ⟨_, rfl⟩
        rw [hq]
        have HQ := Lib.hid hq
        have hc : ((x : Int) == (y : Int)) = false ∨ (((x : Int) == (y : Int)) = true ∧ ((i : Int) == (k : Int)) = false) := by
          rw [beq_eq_false_iff_ne, beq_eq_false_iff_ne, beq_iff_eq]
          by_cases e : x = y
          · exact .inr ⟨by omega, fun h => hab ⟨e, by omega⟩⟩
          · exact .inl (by omega)
        clear hq hj
        by_cases hi : i < ln F x
        · by_cases hk : k < ln F y
          · have hk' : ¬ ((ln F y : Int) ≤ (k : Int)) := by omega
            have hkN : ¬ (ln F y ≤ k) := by omega
            have hi' : ¬ ((ln F x : Int) ≤ (i : Int)) := by omega
            have hiN : ¬ (ln F x ≤ i) := by omega
            have hq' := HQ.out.symm.trans (HQJ.out ⟨by omega, by omega, by omega, by simpa using hi⟩ ⟨by omega, by omega, by omega, by simpa using hk⟩)
            obtain ⟨b8, o8, c8, bA, oA, cA, aB, cB, ev, -, -, d1, -, d1m, d2, -, -, hrr⟩ := HV.out.entry (j := x) (i := i) (by rw [HJ.out.1]; exact hx3) hi
            rw [HJ.out.1] at ev
            simp only [Value.slice.injEq, Option.some.injEq, Addr.mk.injEq, and_true] at ev
            obtain ⟨⟨rfl, rfl⟩, -, rfl⟩ := ev
            rw [r0] at d1
            simp only [Option.some.injEq, Value.slice.injEq] at d1
            obtain ⟨rfl, -, rfl⟩ := d1
            have hLc := (HJ.out.2.2.1 x hx3 i hi).1
            obtain ⟨b9, o9, c9, z, ev, -, m9, d3, HYY⟩ := hrr.num' hLc hy3
            rw [hLc] at d2
            rw [hLc] at ev
            simp only [Value.slice.injEq] at ev
            obtain ⟨rfl, -, rfl⟩ := ev
            unfold maxLen at m9
            have z6 := fun (x : Sub w3) => x.cell d2
            have z7 := fun (x : Sub w3) => x.cell d3
            have hix : (i : Int) < (ln F x : Int) := by omega
            have hqz : q = decide ((k : Int) < z) := by
              rw [hq', show z = ck F x i y from HYY.out.symm]
              by_cases hs : (k : Int) < ck F x i y
              · rw [seesB_t hab hs]; simp [hs]
              · rw [seesB_f (.inr (by omega))]; simp [hs]
            clear hrr hLc hq' d1m HQ
            subst hqz
            rcases hc with heq | ⟨heq, heq2⟩ <;> by_cases hs : (k : Int) < z
            all_goals
              simp only [hs, decide_true, decide_false]
              go_wp2
              refine wp_region_sub (by kernel_rfl) (by kernel_rfl) ?_
              repeat (go_big_quiet_step (exact Calls.sub (v := .bool true) (fun w hb => by have := specJoinValid_c F _ w (HV.out.below hb); rwa [hjv] at this)))
              refine wpQuiet_nil ?_
              rintro _ ⟨xs, rfl⟩
              have HX := Lib.hid xs.b

              obtain ⟨w7, hw7⟩ : ∃ w7, w7 = xs.w := ⟨_, rfl⟩
              have y0 := z0 xs
              have y1 := z1 xs
              have y2 := z2 xs
              have y3 := z3 xs
              have y4 := z4 xs
              have y6 := z6 xs
              have y7 := z7 xs
              have HBX := Lib.hid (T.out.trans (HX.out.mono T.out.size))
              rw [← hw7] at *
              go_wp2
              go_quiet (fail)
              go_wp2
              go_ret
              exact ⟨by first | (simp; done) | (simp; omega), by have := HBX.out; (repeat' (first | exact Below.refl _ _ | assumption | refine Below.drew ?_ | refine below_drewN ?_ _ | refine Below.alloc ?_ (by omega) _ | refine Below.alloc ?_ (by simp; omega) _ | refine Below.alloc ?_ (by simp) _ | refine Below.setCell ?_ (by omega) _ | refine Below.setCell ?_ (by simp; omega) _ | refine Below.setCell ?_ (by simp) _))⟩
          · have hk' : (ln F y : Int) ≤ (k : Int) := by omega
            have hkN : ln F y ≤ k := by omega
            have hi' : ¬ ((ln F x : Int) ≤ (i : Int)) := by omega
            have hiN : ¬ (ln F x ≤ i) := by omega
            clear HQ
            rcases hc with heq | ⟨heq, heq2⟩ <;> cases q
            all_goals
              go_wp2
              refine wp_region_sub (by kernel_rfl) (by kernel_rfl) ?_
              repeat (go_big_quiet_step (exact Calls.sub (v := .bool true) (fun w hb => by have := specJoinValid_c F _ w (HV.out.below hb); rwa [hjv] at this)))
              refine wpQuiet_nil ?_
              rintro _ ⟨xs, rfl⟩
              have HX := Lib.hid xs.b
              go_wp2
              go_ret
              exact ⟨rfl, T.out.trans (HX.out.mono T.out.size)⟩
        · have hi' : (ln F x : Int) ≤ (i : Int) := by omega
          have hiN : ln F x ≤ i := by omega
          clear HQ
          rcases hc with heq | ⟨heq, heq2⟩ <;> cases q
          all_goals
            go_wp2
            refine wp_region_sub (by kernel_rfl) (by kernel_rfl) ?_
            repeat (go_big_quiet_step (exact Calls.sub (v := .bool true) (fun w hb => by have := specJoinValid_c F _ w (HV.out.below hb); rwa [hjv] at this)))
            refine wpQuiet_nil ?_
            rintro _ ⟨xs, rfl⟩
            have HX := Lib.hid xs.b
            go_wp2
            go_ret
            exact ⟨rfl, T.out.trans (HX.out.mono T.out.size)⟩
    · have hjv := jvB_f hj
      obtain ⟨q, hq⟩ : ∃ q, jsB F a0 a1 b0 b1 = q := ⟨_, rfl⟩
      rw [hq]
      clear hq hj
      have z0 := fun (x : Sub w3) => x.cell x0
      have z1 := fun (x : Sub w3) => x.cell x1
      have z2 := fun (x : Sub w3) => x.cell y0
      have z3 := fun (x : Sub w3) => x.cell y1
      cases q
      all_goals
        go_wp2
        refine wp_region_sub (by kernel_rfl) (by kernel_rfl) ?_
        repeat (go_big_quiet_step (exact Calls.sub (v := .bool false) (fun w hb => by have := specJoinValid_c F _ w (HV.out.below hb); rwa [hjv] at this)))
        refine wpQuiet_nil ?_
        rintro _ ⟨xs, rfl⟩
        have HX := Lib.hid xs.b
        go_wp2
        go_ret
        exact ⟨rfl, T.out.trans (HX.out.mono T.out.size)⟩
end Go.Proofs.Ytpgpnemehbbmpaa
