/- The walk of the law that seeing is transitive. -/
import Derived.Test.YtpgpnemehbbmpaaLJs
import Derived.Test.YtpgpnemehbbmpaaLoP
namespace Go.Proofs.Ytpgpnemehbbmpaa
open Go.RowKit
attribute [local go_sem ↓] Go.wp_at_zero Go.wp_at_succ
set_option maxRecDepth 100000 in
set_option maxHeartbeats 6400000 in
theorem lawFnSeesThree_c (w : World) (v : Value) (n : Nat) (h : RdB w v n) (u : Value) (m : Nat) (hu : RdB w u m) : Calls Try.prog 7 #[v, u] w fun e w' => e = .returned (.bool true) ∧ Below w.heap.size w w' := by
  have hB := h
  obtain ⟨a, cap, rfl, h1, h2, -⟩ := h
  obtain ⟨am, capm, rfl, h3, h4, -⟩ := hu
  unfold maxLen at h2 h4
  by_cases hn : 1048576 < n
  · go_enter Try.func7, Try.ntmps7
    go_wp2
    go_ret
    exact ⟨rfl, Below.refl _ _⟩
  by_cases hm : 1048576 < m
  · go_enter Try.func7, Try.ntmps7
    go_wp2
    go_ret
    exact ⟨rfl, Below.refl _ _⟩
  · go_enter Try.func7, Try.ntmps7
    go_wp2_with fail
    refine (drawJoinSees_c _ n _ hB).mono ?_
    rintro e w1 ⟨v, F, a0, a1, b0, b1, rfl, hF, ha, hb, hbd⟩
    obtain ⟨ha0, ha1, ha2, ha3⟩ := ha
    obtain ⟨hb0, hb1, hb2, hb3⟩ := hb
    have HV := Lib.hid hF
    have T := Lib.hid hbd
    clear hF hbd
    obtain ⟨wc, hwc⟩ : ∃ wc, wc = (w1.alloc (.cells #[.int .i64 a0, .int .i64 a1] 32)).alloc (.cells #[.int .i64 b0, .int .i64 b1] 32) := ⟨_, rfl⟩
    have hbc : Below w1.heap.size w1 wc := by rw [hwc]; (repeat' (first | exact Below.refl _ _ | assumption | refine Below.drew ?_ | refine below_drewN ?_ _ | refine Below.alloc ?_ (by omega) _ | refine Below.alloc ?_ (by simp; omega) _ | refine Below.alloc ?_ (by simp) _ | refine Below.setCell ?_ (by omega) _ | refine Below.setCell ?_ (by simp; omega) _ | refine Below.setCell ?_ (by simp) _))
    have A0 : Hid (wc.cell? ⟨w1.heap.size, 0, none⟩ = some (.int .i64 a0)) := by show _ = _; rw [hwc]; simp
    have A1 : Hid (wc.cell? ⟨w1.heap.size, 1, none⟩ = some (.int .i64 a1)) := by show _ = _; rw [hwc]; simp
    have B0 : Hid (wc.cell? ⟨w1.heap.size + 1, 0, none⟩ = some (.int .i64 b0)) := by show _ = _; rw [hwc]; simp
    have B1 : Hid (wc.cell? ⟨w1.heap.size + 1, 1, none⟩ = some (.int .i64 b1)) := by show _ = _; rw [hwc]; simp
    have HWC := Lib.hid hwc
    clear hwc
    have HV := Lib.hid (HV.out.below hbc)
    have T := Lib.hid (T.out.trans (hbc.mono T.out.size))
    clear hbc
    go_wp2_with fail
    rw [← HWC.out]
    refine (joinSees_c F _ a0 a1 b0 b1 _ HV.out).mono ?_
    rintro e w2 ⟨rfl, hbd⟩
    have HV := Lib.hid (HV.out.below hbd)
    have A0 := Lib.hid (cell_keep hbd A0.out)
    have A1 := Lib.hid (cell_keep hbd A1.out)
    have B0 := Lib.hid (cell_keep hbd B0.out)
    have B1 := Lib.hid (cell_keep hbd B1.out)
    have T := Lib.hid (T.out.trans (hbd.mono T.out.size))
    clear hbd
    have x0 := A0.out
    have x1 := A1.out
    have y0 := B0.out
    have y1 := B1.out
    go_wp2_with fail
    refine (specJoinSees_c F _ a0 a1 b0 b1 _ HV.out).mono ?_
    rintro e w3 ⟨rfl, hbd⟩
    clear x0 x1 y0 y1
    have HV := Lib.hid (HV.out.below hbd)
    have A0 := Lib.hid (cell_keep hbd A0.out)
    have A1 := Lib.hid (cell_keep hbd A1.out)
    have B0 := Lib.hid (cell_keep hbd B0.out)
    have B1 := Lib.hid (cell_keep hbd B1.out)
    have T := Lib.hid (T.out.trans (hbd.mono T.out.size))
    clear hbd
    by_cases hs : JS F a0 a1 b0 b1
    · rw [jsB_t hs]
      have hj := hs.1
      have HJ := Lib.hid hj
      have HJS := Lib.hid hs
      have hpos : 0 < tot F := by
        obtain ⟨w', i', v', k', -, -, -, -, hw', hi', -⟩ := js_nat hs
        unfold tot
        obtain rfl | rfl | rfl : w' = 0 ∨ w' = 1 ∨ w' = 2 := by omega
        all_goals omega
      clear hs hj
      go_wp2_with fail
      refine (joinOrder_o F _ _ HV.out).mono ?_
      rintro e w4 ⟨ao, ON, Oc, rfl, Ob, O1, O2, hO, hbd⟩
      unfold maxLen at O2
      have HV := Lib.hid (HV.out.below hbd)
      have A0 := Lib.hid (cell_keep hbd A0.out)
      have A1 := Lib.hid (cell_keep hbd A1.out)
      have B0 := Lib.hid (cell_keep hbd B0.out)
      have B1 := Lib.hid (cell_keep hbd B1.out)
      have T := Lib.hid (T.out.trans (hbd.mono T.out.size))
      clear hbd
      have HO := Lib.hid hO
      clear hO
      have hN := HO.out.tot HJ.out
      have hON : 0 < ON := by omega
      have hON' : ¬ ((ON : Int) = 0) := by omega
      obtain ⟨r, hr⟩ : ∃ r, m % ON = r := ⟨_, rfl⟩
      have hrl : r < ON := by rw [← hr]; exact Nat.mod_lt _ hON
      have hrem : (m : Int) % (ON : Int) = (r : Int) := by omega
      clear hr hN hpos
      have x0 := A0.out
      have x1 := A1.out
      have y0 := B0.out
      have y1 := B1.out
      have zb0 := World.block_lt_of_cell? w4 _ x0
      have zb1 := World.block_lt_of_cell? w4 _ y0
      obtain ⟨g, o, cx, cy, rfl, d1, d2, HX, cx3, cyL⟩ := HO.out.at HJ.out (k := r) hrl
      obtain ⟨wd, hwd⟩ : ∃ wd, wd = w4.alloc (.cells #[.int .i64 cx, .int .i64 cy] 32) := ⟨_, rfl⟩
      have hbw : Below w4.heap.size w4 wd := by rw [hwd]; (repeat' (first | exact Below.refl _ _ | assumption | refine Below.drew ?_ | refine below_drewN ?_ _ | refine Below.alloc ?_ (by omega) _ | refine Below.alloc ?_ (by simp; omega) _ | refine Below.alloc ?_ (by simp) _ | refine Below.setCell ?_ (by omega) _ | refine Below.setCell ?_ (by simp; omega) _ | refine Below.setCell ?_ (by simp) _))
      have C0 : Hid (wd.cell? ⟨w4.heap.size, 0, none⟩ = some (.int .i64 cx)) := by show _ = _; rw [hwd]; simp
      have C1 : Hid (wd.cell? ⟨w4.heap.size, 1, none⟩ = some (.int .i64 cy)) := by show _ = _; rw [hwd]; simp
      have HWD := Lib.hid hwd
      clear hwd
      have HV := Lib.hid (HV.out.below hbw)
      have A0 := Lib.hid (cell_keep hbw A0.out)
      have A1 := Lib.hid (cell_keep hbw A1.out)
      have B0 := Lib.hid (cell_keep hbw B0.out)
      have B1 := Lib.hid (cell_keep hbw B1.out)
      have HO := Lib.hid (HO.out.below hbw)
      have T := Lib.hid (T.out.trans (hbw.mono T.out.size))
      clear hbw
      go_wp2_with fail
      clear x0 x1 y0 y1 d1 d2 zb0 zb1
      rw [← HWD.out]
      refine (joinSees_c F _ b0 b1 cx cy _ HV.out).mono ?_
      rintro e w5 ⟨rfl, hbd⟩
      have HV := Lib.hid (HV.out.below hbd)
      have A0 := Lib.hid (cell_keep hbd A0.out)
      have A1 := Lib.hid (cell_keep hbd A1.out)
      have B0 := Lib.hid (cell_keep hbd B0.out)
      have B1 := Lib.hid (cell_keep hbd B1.out)
      have HO := Lib.hid (HO.out.below hbd)
      have C0 := Lib.hid (cell_keep hbd C0.out)
      have C1 := Lib.hid (cell_keep hbd C1.out)
      have T := Lib.hid (T.out.trans (hbd.mono T.out.size))
      clear hbd
      by_cases hbc : JS F b0 b1 cx cy
      · rw [jsB_t hbc]
        have HAC := Lib.hid (js_trans HJS.out hbc)
        clear hbc
        have x0 := A0.out
        have x1 := A1.out
        have z0 := C0.out
        have z1 := C1.out
        go_wp2_with fail
        refine (joinSees_c F _ a0 a1 cx cy _ HV.out).mono ?_
        rintro e w6 ⟨rfl, hbd⟩
        clear x0 x1 z0 z1
        rw [jsB_t HAC.out]
        have HV := Lib.hid (HV.out.below hbd)
        have A0 := Lib.hid (cell_keep hbd A0.out)
        have A1 := Lib.hid (cell_keep hbd A1.out)
        have B0 := Lib.hid (cell_keep hbd B0.out)
        have B1 := Lib.hid (cell_keep hbd B1.out)
        have HO := Lib.hid (HO.out.below hbd)
        have C0 := Lib.hid (cell_keep hbd C0.out)
        have C1 := Lib.hid (cell_keep hbd C1.out)
        have T := Lib.hid (T.out.trans (hbd.mono T.out.size))
        clear hbd
        go_wp2
        go_ret
        exact ⟨rfl, T.out⟩
      · rw [jsB_f hbc]
        clear hbc
        go_wp2
        go_ret
        exact ⟨rfl, T.out⟩
    · rw [jsB_f hs]
      clear hs
      go_wp2
      go_ret
      exact ⟨rfl, T.out⟩
end Go.Proofs.Ytpgpnemehbbmpaa
