/- The walk of the law FnWorldNew. -/
import Derived.Test.YtbjndbaljenlgaaWe
namespace Go.Proofs.Ytbjndbaljenlgaa
open Go.RowKit
set_option linter.unusedSimpArgs false
set_option maxRecDepth 100000 in
set_option maxHeartbeats 3200000 in
theorem lawFnWorldNew_c (w : World) (v : Value) (nc : Nat) (h : RdB w v nc) : Calls Try.prog 3 #[v] w fun e w' => e = .returned (.bool true) ∧ Below w.heap.size w w' := by
  have H := Lib.hid h
  obtain ⟨a, cap, rfl, h1, h2, h3⟩ := h
  unfold maxLen at h2
  clear h3
  by_cases hl : (nc : Int) > 1048576
  · go_enter Try.func3, Try.ntmps3
    go_wp2
    go_ret
    exact ⟨rfl, Below.refl _ _⟩
  · go_enter Try.func3, Try.ntmps3
    go_wp2_with fail
    refine (drawWorld_c _ nc _ H.out).mono ?_
    rintro e w1 ⟨s, p, b, rfl, hp0, hp1, hb1⟩
    have HB := Lib.hid hb1
    clear hb1 H
    go_wp2_with fail
    refine (impWorldNew_c s p b _ hp0 (by omega)).mono ?_
    rintro e w2 ⟨s1, b1, kk, n, vF, vL, vA, vN, rfl, hF, hA, hL, hN, hy, hz, hb2⟩
    have HB := Lib.hid (HB.out.trans (hb2.mono HB.out.size))
    have HLN := Lib.hid (And.intro hL hN)
    obtain ⟨aF, cF, rfl, f1, f2⟩ := hF.shape
    obtain ⟨aA, cA, rfl, g1, g2⟩ := hA.shape
    obtain ⟨aL, cL, rfl, -⟩ := hL
    obtain ⟨aN, cN, rfl, -⟩ := hN
    unfold maxLen at f2 g2
    obtain ⟨q, hq⟩ : ∃ q, sv s p b = q := ⟨_, rfl⟩
    rw [hq] at hy hz ⊢
    have HQ := Lib.hid (fun (_ : True) => hq)
    have HYZ := Lib.hid (And.intro hy hz)
    have HFA := Lib.hid (fun W (hW : Below w2.heap.size w2 W) => And.intro (hF.below hW) (hA.below hW))
    clear hq hy hz hb2 hF hA
    obtain ⟨W2, hW2⟩ : ∃ W2, W2 = w2.alloc (.cells #[.int .i64 s1, .int .i64 b1, .slice aF n cF, .slice aL 0 cL, .slice aA n cA, .slice aN 0 cN] 30) := ⟨_, rfl⟩
    have hbW2 : Below w2.heap.size w2 W2 := by rw [hW2]; (repeat' (first | exact Below.refl _ _ | assumption | refine Below.drew ?_ | refine below_drewN ?_ _ | refine Below.alloc ?_ (by omega) _ | refine Below.alloc ?_ (by simp; omega) _ | refine Below.alloc ?_ (by simp) _ | refine Below.setCell ?_ (by omega) _ | refine Below.setCell ?_ (by simp; omega) _ | refine Below.setCell ?_ (by simp) _))
    have x0 : W2.cell? ⟨w2.heap.size, 0, none⟩ = some (.int .i64 s1) := by rw [hW2]; exact cell_new rfl rfl
    have x1 : W2.cell? ⟨w2.heap.size, 1, none⟩ = some (.int .i64 b1) := by rw [hW2]; exact cell_new rfl rfl
    have x2 : W2.cell? ⟨w2.heap.size, 2, none⟩ = some (.slice aF n cF) := by rw [hW2]; exact cell_new rfl rfl
    have x3 : W2.cell? ⟨w2.heap.size, 3, none⟩ = some (.slice aL 0 cL) := by rw [hW2]; exact cell_new rfl rfl
    have x4 : W2.cell? ⟨w2.heap.size, 4, none⟩ = some (.slice aA n cA) := by rw [hW2]; exact cell_new rfl rfl
    have x5 : W2.cell? ⟨w2.heap.size, 5, none⟩ = some (.slice aN 0 cN) := by rw [hW2]; exact cell_new rfl rfl
    have D := Lib.hid hbW2
    have HB := Lib.hid (HB.out.trans (hbW2.mono HB.out.size))
    clear hbW2
    go_upto_region 5 with (fail)
    rw [← hW2]
    clear hW2
    go_wp2_with fail
    refine (specWorldNew_c s p b _ hp0 (by omega)).mono ?_
    rintro e w3 ⟨s2, b2, kk2, n2, vF', vL', vA', vN', rfl, hF', hA', hL', hN', hy', hz', hb3⟩
    rw [HQ.out trivial] at hy' hz' ⊢
    have heq : s2 = s1 ∧ b2 = b1 ∧ kk2 = kk ∧ n2 = n := by
      cases q
      · have e1 := HYZ.out.2 rfl
        have e2 := hz' rfl
        exact ⟨e2.1.trans e1.1.symm, e2.2.1.trans e1.2.1.symm, e2.2.2.1.trans e1.2.2.1.symm, e2.2.2.2.trans e1.2.2.2.symm⟩
      · have e1 := HYZ.out.1 rfl
        have e2 := hy' rfl
        refine ⟨e2.1.trans e1.1.symm, e2.2.1.trans e1.2.1.symm, e2.2.2.1.trans e1.2.2.1.symm, ?_⟩
        have h1 := e1.2.2.2
        have h2 := e2.2.2.2
        omega
    obtain ⟨rfl, rfl, rfl, rfl⟩ := heq
    have HLN' := Lib.hid (And.intro hL' hN')
    obtain ⟨aF', cF', rfl, f3, f4⟩ := hF'.shape
    obtain ⟨aA', cA', rfl, g3, g4⟩ := hA'.shape
    obtain ⟨aL', cL', rfl, -⟩ := hL'
    obtain ⟨aN', cN', rfl, -⟩ := hN'
    unfold maxLen at f4 g4
    have hn6 : n2 ≤ 6 := by
      cases q
      · have := (HYZ.out.2 rfl).2.2.2; omega
      · have h1 := (HYZ.out.1 rfl).2.2.2
        have h2 := HQ.out trivial
        unfold sv at h2
        simp only [Bool.and_eq_true] at h2
        have := (inB_iff.1 h2.2.1).2
        omega
    have SW0 := Lib.hid (fun W (hW : Below w3.heap.size w3 W) => sameWorld_c s2 b2 kk2 n2 _ _ _ _ _ _ _ _ W hn6 (HFA.out W (D.out.trans ((hb3.trans (hW.mono hb3.size)).mono D.out.size))).1 (HFA.out W (D.out.trans ((hb3.trans (hW.mono hb3.size)).mono D.out.size))).2 HLN.out.1 HLN.out.2 (hF'.below hW) (hA'.below hW) HLN'.out.1 HLN'.out.2)
    obtain ⟨W3, hW3⟩ : ∃ W3, W3 = w3.alloc (.cells #[.int .i64 s2, .int .i64 b2, .slice aF' n2 cF', .slice aL' 0 cL', .slice aA' n2 cA', .slice aN' 0 cN'] 30) := ⟨_, rfl⟩
    have hbW3 : Below w3.heap.size w3 W3 := by rw [hW3]; (repeat' (first | exact Below.refl _ _ | assumption | refine Below.drew ?_ | refine below_drewN ?_ _ | refine Below.alloc ?_ (by omega) _ | refine Below.alloc ?_ (by simp; omega) _ | refine Below.alloc ?_ (by simp) _ | refine Below.setCell ?_ (by omega) _ | refine Below.setCell ?_ (by simp; omega) _ | refine Below.setCell ?_ (by simp) _))
    have y0 : W3.cell? ⟨w3.heap.size, 0, none⟩ = some (.int .i64 s2) := by rw [hW3]; exact cell_new rfl rfl
    have y1 : W3.cell? ⟨w3.heap.size, 1, none⟩ = some (.int .i64 b2) := by rw [hW3]; exact cell_new rfl rfl
    have y2 : W3.cell? ⟨w3.heap.size, 2, none⟩ = some (.slice aF' n2 cF') := by rw [hW3]; exact cell_new rfl rfl
    have y3 : W3.cell? ⟨w3.heap.size, 3, none⟩ = some (.slice aL' 0 cL') := by rw [hW3]; exact cell_new rfl rfl
    have y4 : W3.cell? ⟨w3.heap.size, 4, none⟩ = some (.slice aA' n2 cA') := by rw [hW3]; exact cell_new rfl rfl
    have y5 : W3.cell? ⟨w3.heap.size, 5, none⟩ = some (.slice aN' 0 cN') := by rw [hW3]; exact cell_new rfl rfl
    have hb33 := hb3.trans (hbW3.mono hb3.size)
    have x0 := cell_keep hb33 x0
    have x1 := cell_keep hb33 x1
    have x2 := cell_keep hb33 x2
    have x3 := cell_keep hb33 x3
    have x4 := cell_keep hb33 x4
    have x5 := cell_keep hb33 x5
    have D := Lib.hid (D.out.trans (hb33.mono D.out.size))
    have HB := Lib.hid (HB.out.trans (hb33.mono HB.out.size))
    have E := Lib.hid hbW3
    clear hbW3 hb3 hb33 hy' hz' hF' hA'
    go_upto_region 6 with (fail)
    rw [← hW3]
    clear hW3
    go_wp2_with fail
    refine (SW0.out _ E.out).mono ?_
    rintro e w4 ⟨rfl, hb4⟩
    have x0 := cell_keep hb4 x0
    have x1 := cell_keep hb4 x1
    have x2 := cell_keep hb4 x2
    have x3 := cell_keep hb4 x3
    have x4 := cell_keep hb4 x4
    have x5 := cell_keep hb4 x5
    have y0 := cell_keep hb4 y0
    have y1 := cell_keep hb4 y1
    have y2 := cell_keep hb4 y2
    have y3 := cell_keep hb4 y3
    have y4 := cell_keep hb4 y4
    have y5 := cell_keep hb4 y5
    have D := Lib.hid (D.out.trans (hb4.mono D.out.size))
    have E := Lib.hid (E.out.trans (hb4.mono E.out.size))
    have HB := Lib.hid (HB.out.trans (hb4.mono HB.out.size))
    clear hb4
    cases q
    · go_wp2_with fail
      refine (SW0.out _ E.out).mono ?_
      rintro e w5 ⟨rfl, hb5⟩
      have HB := Lib.hid (HB.out.trans (hb5.mono HB.out.size))
      clear hb5
      go_wp2
      go_ret
      exact ⟨rfl, HB.out⟩
    · obtain ⟨rfl, rfl, hkk, hnp⟩ := HYZ.out.1 (by trivial)
      subst hnp
      have HIN := HQ.out trivial
      have HSV := Lib.hid HIN
      unfold sv at HIN
      simp only [Bool.and_eq_true] at HIN
      have hk : inB 1 996 kk2 = true := by rw [hkk]; exact hpub_in HIN.1
      have hn0 : 0 < n2 := by have := (inB_iff.1 HIN.2.1).1; omega
      have HK := Lib.hid (And.intro hk hkk.symm)
      clear HIN hk hkk SW0 HLN' E y0 y1 y2 y3 y4 y5 HYZ HQ
      go_wp2
      go_loopw [10] (fun i wr => ∃ i' : Nat, i' ≤ n2 ∧ i = .int .i64 i' ∧ Hid (Below w4.heap.size w4 wr)) (fun i _ => n2 - (intOf i).toNat)
      case atStart => exact ⟨0, Nat.zero_le _, rfl, Lib.hid (Below.refl _ _)⟩
      case round =>
        obtain ⟨i, hi, rfl, HI⟩ := hrel
        have x0 := cell_keep HI.out x0
        have x1 := cell_keep HI.out x1
        have x2 := cell_keep HI.out x2
        have x3 := cell_keep HI.out x3
        have x4 := cell_keep HI.out x4
        have x5 := cell_keep HI.out x5
        have HBr := Lib.hid (D.out.trans (HI.out.mono D.out.size))
        by_cases hlt : i < n2
        · have hlti : (i : Int) < (n2 : Int) := by omega
          obtain ⟨bb, oo, ab, cb, ah, ch, hq, -, -, p0, -, -, -, p4, -⟩ := (HFA.out _ HBr.out).1.at hlt
          subst hq
          have HPc := Lib.hid (fun (W : World) => (show Calls Try.prog 17 #[.int .i64 s2] W (fun e w' => e = .returned (.int .i64 kk2) ∧ W = w') from by
            have := impPub_c s2 W
            rw [HK.out.2] at this
            exact this))
          have z2 := fun (xx : Sub wr) => xx.cell x2
          have zp0 := fun (xx : Sub wr) => xx.cell p0
          have zp4 := fun (xx : Sub wr) => xx.cell p4
          go_wp2
          refine wp_region_sub (by kernel_rfl) (by kernel_rfl) ?_
          repeat (go_big_quiet_step (with_reducible (exact Calls.sub_same (v := .int .i64 kk2) (fun W _ => HPc.out W))))
          refine wpQuiet_nil ?_
          rintro _ ⟨xs, rfl⟩
          have HI2 := Lib.hid (HI.out.trans (xs.b.mono HI.out.size))
          clear z2 zp0 zp4 HPc HI
          go_wp2
          go_roundw
          case rel => exact ⟨i + 1, by omega, by go_num, HI2⟩
          case measure => simp [intOf]; omega
        · have WV := Lib.hid (worldValid_c s2 b2 kk2 n2 (.slice aF n2 cF) (.slice aL 0 cL) (.slice aA n2 cA) (.slice aN 0 cN) wr hn0 hn6 HSV.out HK.out.1 HK.out.2 (HFA.out _ HBr.out).1 (HFA.out _ HBr.out).2 HLN.out.1 HLN.out.2)
          have HBZ := Lib.hid (HB.out.trans (HI.out.mono HB.out.size))
          go_wp2_with fail
          refine (WV.out).mono ?_
          rintro e w6 ⟨rfl, hb6⟩
          have x0 := cell_keep hb6 x0
          have x1 := cell_keep hb6 x1
          have x2 := cell_keep hb6 x2
          have x3 := cell_keep hb6 x3
          have x4 := cell_keep hb6 x4
          have x5 := cell_keep hb6 x5
          have HBZ := Lib.hid (HBZ.out.trans (hb6.mono HBZ.out.size))
          clear hb6
          go_wp2
          go_ret
          exact ⟨by simp, HBZ.out⟩
end Go.Proofs.Ytbjndbaljenlgaa
