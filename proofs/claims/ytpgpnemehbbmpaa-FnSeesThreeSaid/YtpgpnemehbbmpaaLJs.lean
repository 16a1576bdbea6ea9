/- The walks of the laws on what an entry sees. -/
import Derived.Test.YtpgpnemehbbmpaaJwP
import Derived.Test.YtpgpnemehbbmpaaJwJ
namespace Go.Proofs.Ytpgpnemehbbmpaa
open Go.RowKit
attribute [local go_sem ↓] Go.wp_at_zero Go.wp_at_succ
theorem js_nat {F : Fd} {aw ai bw bi : Int} (h : JS F aw ai bw bi) : ∃ w i v k : Nat, aw = (w : Int) ∧ ai = (i : Int) ∧ bw = (v : Int) ∧ bi = (k : Int) ∧ w < 3 ∧ i < ln F w ∧ v < 3 ∧ k < ln F v ∧ ¬ (w = v ∧ i = k) ∧ (k : Int) < ck F w i v := by
  obtain ⟨-, ⟨a1, a2, a3, a4⟩, ⟨b1, b2, b3, b4⟩, hne, hlt⟩ := h
  obtain ⟨w, rfl⟩ := Int.eq_ofNat_of_zero_le a1
  obtain ⟨i, rfl⟩ := Int.eq_ofNat_of_zero_le a3
  obtain ⟨v, rfl⟩ := Int.eq_ofNat_of_zero_le b1
  obtain ⟨k, rfl⟩ := Int.eq_ofNat_of_zero_le b3
  simp only [Int.toNat_natCast] at a4 b4 hlt
  exact ⟨w, i, v, k, rfl, rfl, rfl, rfl, by omega, by omega, by omega, by omega, fun e => hne (by omega), hlt⟩
theorem js_mk {F : Fd} (h : JV F) {w i v k : Nat} (hw : w < 3) (hi : i < ln F w) (hv : v < 3) (hk : k < ln F v) (hne : ¬ (w = v ∧ i = k)) (hlt : (k : Int) < ck F w i v) : JS F w i v k :=
  ⟨h, ⟨by omega, by omega, by omega, by simpa using hi⟩, ⟨by omega, by omega, by omega, by simpa using hk⟩, fun e => hne (by omega), by simpa using hlt⟩
theorem js_back {F : Fd} {aw ai bw bi : Int} (h : JS F aw ai bw bi) : ¬ JS F bw bi aw ai := by
  intro h2
  have hj := h.1
  obtain ⟨w, i, v, k, rfl, rfl, rfl, rfl, hw, hi, hv, hk, hne, hlt⟩ := js_nat h
  have hlt2 := h2.2.2.2.2
  simp only [Int.toNat_natCast] at hlt2
  by_cases e : w = v
  · subst e
    rw [hj.own hw hi] at hlt
    rw [hj.own hw hk] at hlt2
    omega
  · have := hj.anti hw hi hv hlt (Ne.symm e)
    omega
theorem js_self {F : Fd} {aw ai : Int} : ¬ JS F aw ai aw ai := fun h => h.2.2.2.1 ⟨rfl, rfl⟩
theorem js_trans {F : Fd} {aw ai bw bi cw ci : Int} (h : JS F aw ai bw bi) (h2 : JS F bw bi cw ci) : JS F aw ai cw ci := by
  have hj := h.1
  refine ⟨hj, h.2.1, h2.2.2.1, fun e => ?_, ?_⟩
  · obtain ⟨rfl, rfl⟩ := e
    exact js_back h h2
  · obtain ⟨w, i, v, k, rfl, rfl, rfl, rfl, hw, hi, hv, hk, hne, hlt⟩ := js_nat h
    obtain ⟨v', k', x, l, e1, e2, rfl, rfl, -, -, hx, hl, -, hlt2⟩ := js_nat h2
    obtain rfl : v = v' := by omega
    obtain rfl : k = k' := by omega
    have := (hj.up hw hi hv hlt hx).2
    simp only [Int.toNat_natCast]
    omega
set_option maxRecDepth 100000 in
set_option maxHeartbeats 6400000 in
theorem lawFnSeesBack_c (w : World) (v : Value) (n : Nat) (h : RdB w v n) : Calls Try.prog 5 #[v] w fun e w' => e = .returned (.bool true) ∧ Below w.heap.size w w' := by
  have hB := h
  obtain ⟨a, cap, rfl, h1, h2, -⟩ := h
  unfold maxLen at h2
  by_cases hn : 1048576 < n
  · go_enter Try.func5, Try.ntmps5
    go_wp2
    go_ret
    exact ⟨rfl, Below.refl _ _⟩
  · go_enter Try.func5, Try.ntmps5
    go_wp2_with fail
    refine (drawJoinSees_c _ n _ hB).mono ?_
    rintro e w1 ⟨v, F, a0, a1, b0, b1, rfl, hF, ha, hb, hbd⟩
    obtain ⟨ha0, ha1, ha2, ha3⟩ := ha
    obtain ⟨hb0, hb1, hb2, hb3⟩ := hb
    have HV := Lib.hid hF
    have T := Lib.hid hbd
    clear hF hbd
    obtain ⟨wc, hwc⟩ : ∃ wc, wc = (w1.alloc (.cells #[.int .i64 a0, .int .i64 a1] 32)).alloc (.cells #[.int .i64 b0, .int .i64 b1] 32) := ⟨_, rfl⟩
    have hbc : Below w1.heap.size w1 wc := by rw [hwc]; (repeat' (first | exact Below.refl _ _ | assumption | refine Below.drew ?_ | refine below_drewN ?_ _ | refine Below.alloc ?_ (by omega) _ | refine Below.alloc ?_ (by simp; omega) _ | refine Below.alloc ?_ (by simp) _ | refine Below.setCell ?_ (by omega) _ | refine Below.setCell ?_ (by simp; omega) _ | refine Below.setCell ?_ (by simp) _))
    have A0 : Hid (wc.cell? ⟨w1.heap.size, 0, none⟩ = some (.int .i64 a0)) := by show _ = _; rw [hwc]; simp
    have A1 : Hid (wc.cell? ⟨w1.heap.size, 1, none⟩ = some (.int .i64 a1)) := by show _ = _; rw [hwc]; simp
    have B0 : Hid (wc.cell? ⟨w1.heap.size + 1, 0, none⟩ = some (.int .i64 b0)) := by show _ = _; rw [hwc]; simp
    have B1 : Hid (wc.cell? ⟨w1.heap.size + 1, 1, none⟩ = some (.int .i64 b1)) := by show _ = _; rw [hwc]; simp
    have HWC := Lib.hid hwc
    clear hwc
    have HV := Lib.hid (HV.out.below hbc)
    have T := Lib.hid (T.out.trans (hbc.mono T.out.size))
    clear hbc
    go_wp2_with fail
    rw [← HWC.out]
    refine (joinSees_c F _ a0 a1 b0 b1 _ HV.out).mono ?_
    rintro e w2 ⟨rfl, hbd⟩
    have HV := Lib.hid (HV.out.below hbd)
    have A0 := Lib.hid (cell_keep hbd A0.out)
    have A1 := Lib.hid (cell_keep hbd A1.out)
    have B0 := Lib.hid (cell_keep hbd B0.out)
    have B1 := Lib.hid (cell_keep hbd B1.out)
    have T := Lib.hid (T.out.trans (hbd.mono T.out.size))
    clear hbd
    have x0 := A0.out
    have x1 := A1.out
    have y0 := B0.out
    have y1 := B1.out
    go_wp2_with fail
    refine (specJoinSees_c F _ a0 a1 b0 b1 _ HV.out).mono ?_
    rintro e w3 ⟨rfl, hbd⟩
    clear x0 x1 y0 y1
    have HV := Lib.hid (HV.out.below hbd)
    have A0 := Lib.hid (cell_keep hbd A0.out)
    have A1 := Lib.hid (cell_keep hbd A1.out)
    have B0 := Lib.hid (cell_keep hbd B0.out)
    have B1 := Lib.hid (cell_keep hbd B1.out)
    have T := Lib.hid (T.out.trans (hbd.mono T.out.size))
    clear hbd
    by_cases hs : JS F a0 a1 b0 b1
    · rw [jsB_t hs]
      have HN := Lib.hid (jsB_f (js_back hs))
      clear hs
      have x0 := A0.out
      have x1 := A1.out
      have y0 := B0.out
      have y1 := B1.out
      go_wp2_with fail
      refine (joinSees_c F _ b0 b1 a0 a1 _ HV.out).mono ?_
      rintro e w4 ⟨rfl, hbd⟩
      clear x0 x1 y0 y1
      rw [HN.out]
      have HV := Lib.hid (HV.out.below hbd)
      have A0 := Lib.hid (cell_keep hbd A0.out)
      have A1 := Lib.hid (cell_keep hbd A1.out)
      have B0 := Lib.hid (cell_keep hbd B0.out)
      have B1 := Lib.hid (cell_keep hbd B1.out)
      have T := Lib.hid (T.out.trans (hbd.mono T.out.size))
      clear hbd
      have x0 := A0.out
      have x1 := A1.out
      have y0 := B0.out
      have y1 := B1.out
      go_wp2_with fail
      refine (joinSees_c F _ a0 a1 a0 a1 _ HV.out).mono ?_
      rintro e w5 ⟨rfl, hbd⟩
      clear x0 x1 y0 y1
      rw [jsB_f js_self]
      have HV := Lib.hid (HV.out.below hbd)
      have A0 := Lib.hid (cell_keep hbd A0.out)
      have A1 := Lib.hid (cell_keep hbd A1.out)
      have B0 := Lib.hid (cell_keep hbd B0.out)
      have B1 := Lib.hid (cell_keep hbd B1.out)
      have T := Lib.hid (T.out.trans (hbd.mono T.out.size))
      clear hbd
      go_wp2
      go_ret
      exact ⟨rfl, T.out⟩
    · rw [jsB_f hs]
      clear hs
      have x0 := A0.out
      have x1 := A1.out
      have y0 := B0.out
      have y1 := B1.out
      go_wp2_with fail
      refine (joinSees_c F _ a0 a1 a0 a1 _ HV.out).mono ?_
      rintro e w4 ⟨rfl, hbd⟩
      clear x0 x1 y0 y1
      rw [jsB_f js_self]
      have HV := Lib.hid (HV.out.below hbd)
      have A0 := Lib.hid (cell_keep hbd A0.out)
      have A1 := Lib.hid (cell_keep hbd A1.out)
      have B0 := Lib.hid (cell_keep hbd B0.out)
      have B1 := Lib.hid (cell_keep hbd B1.out)
      have T := Lib.hid (T.out.trans (hbd.mono T.out.size))
      clear hbd
      go_wp2
      go_ret
      exact ⟨rfl, T.out⟩
end Go.Proofs.Ytpgpnemehbbmpaa
