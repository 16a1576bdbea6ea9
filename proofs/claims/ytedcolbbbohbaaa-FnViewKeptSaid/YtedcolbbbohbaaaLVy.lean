/- The walk of the law FnViewKept. -/
import Derived.Test.YtedcolbbbohbaaaJwY
import Derived.Test.YtedcolbbbohbaaaJxB
import Derived.Test.YtedcolbbbohbaaaJxC
import Derived.Test.YtedcolbbbohbaaaJwX
import Derived.Test.YtedcolbbbohbaaaShF
namespace Go.Proofs.Ytedcolbbbohbaaa
open Go.RowKit
attribute [local go_sem ↓] Go.wp_at_zero Go.wp_at_succ
theorem lastV_cpl {F G : Fd} (h : Grw F G) (key : Int) : ∀ n, n ≤ cpl (jo F) (jo G) → lastV G n key = lastV F n key
  | 0, _ => rfl
  | n + 1, hn => by
    have ih := lastV_cpl h key n (by omega)
    have hF : n < tot F := by have := (cpl_le (jo F) (jo G)).1; rw [jo_len h.1] at this; omega
    have hG : n < tot G := by have := h.tot; omega
    have e := cpl_same (jo F) (jo G) (0, 0) n (by omega)
    rw [jo_at h.1 hF, jo_at h.2.1 hG] at e
    simp only [Prod.mk.injEq] at e
    have e1 : wk G n = wk F n := by omega
    have e2 : ix G n = ix F n := by omega
    have e3 : ent G (wk G n) (pst G n (wk G n)) = ent F (wk F n) (pst F n (wk F n)) := by
      show ent G (wk G n) (ix G n) = ent F (wk F n) (ix F n)
      rw [e1, e2]
      exact (h.2.2 (wk F n) (wk_lt h.1 hF)).2 _ (ix_lt h.1 hF)
    show (if (ent G (wk G n) (pst G n (wk G n))).2.1 = key then some (ent G (wk G n) (pst G n (wk G n))).2.2 else lastV G n key) = if (ent F (wk F n) (pst F n (wk F n))).2.1 = key then some (ent F (wk F n) (pst F n (wk F n))).2.2 else lastV F n key
    rw [e3, ih]
theorem vw_cpl {F G : Fd} (h : Grw F G) {n : Nat} (hn : n ≤ cpl (jo F) (jo G)) : vw G n = vw F n := by
  unfold vw
  rw [show lastV G n = lastV F n from funext fun key => lastV_cpl h key n hn]
set_option maxRecDepth 100000 in
set_option maxHeartbeats 6400000 in
theorem lawFnViewKept_c (w : World) (v : Value) (n : Nat) (h : RdB w v n) : Calls Try.prog 13 #[v] w fun e w' => e = .returned (.bool true) ∧ Below w.heap.size w w' := by
  have hB := h
  obtain ⟨a, cap, rfl, h1, h2, -⟩ := h
  unfold maxLen at h2
  by_cases hn : 1048576 < n
  · go_enter Try.func13, Try.ntmps13
    go_wp2
    go_ret
    exact ⟨rfl, Below.refl _ _⟩
  · go_enter Try.func13, Try.ntmps13
    go_wp2_with fail
    refine (drawViewKept_c _ n _ hB).mono ?_
    rintro e w1 ⟨v, F, u, G, rfl, hF, hG, hbd⟩
    have HV := Lib.hid hF
    have HU := Lib.hid hG
    have T := Lib.hid hbd
    clear hF hG hbd
    go_wp2_with fail
    refine (viewKept_c F G _ _ _ HV.out HU.out).mono ?_
    rintro e w2 ⟨rfl, hbd⟩
    have HV := Lib.hid (HV.out.below hbd)
    have HU := Lib.hid (HU.out.below hbd)
    have T := Lib.hid (T.out.trans (hbd.mono T.out.size))
    clear hbd
    go_wp2_with fail
    refine (specViewKept_c F G _ _ _ HV.out HU.out).mono ?_
    rintro e w3 ⟨rfl, hbd⟩
    have HV := Lib.hid (HV.out.below hbd)
    have HU := Lib.hid (HU.out.below hbd)
    have T := Lib.hid (T.out.trans (hbd.mono T.out.size))
    clear hbd
    by_cases hg : Grw F G
    · rw [vkv_t hg]
      have GR := Lib.hid hg
      obtain ⟨c, hc⟩ : ∃ c, cpl (jo F) (jo G) = c := ⟨_, rfl⟩
      have hle := cpl_le (jo F) (jo G)
      have hjl := jo_len hg.1
      have ht := tot_le hg.1
      rw [hc] at hle ⊢
      have hc24 : c ≤ 24 := by omega
      have HC := Lib.hid hc
      clear hg hc hle hjl ht
      go_wp2_with fail
      refine (joinOrder_o F _ _ HV.out).mono ?_
      rintro e w4 ⟨ao, ON, Oc, rfl, Ob, O1, O2, hO, hbd⟩
      unfold maxLen at O2
      have HV := Lib.hid (HV.out.below hbd)
      have HU := Lib.hid (HU.out.below hbd)
      have T := Lib.hid (T.out.trans (hbd.mono T.out.size))
      clear hbd
      have HO := Lib.hid hO
      clear hO
      go_wp2_with fail
      refine (joinOrder_o G _ _ HU.out).mono ?_
      rintro e w5 ⟨ap, PN, Pc, rfl, Pb, P1, P2, hP, hbd⟩
      unfold maxLen at P2
      have HV := Lib.hid (HV.out.below hbd)
      have HU := Lib.hid (HU.out.below hbd)
      have HO := Lib.hid (HO.out.below hbd)
      have T := Lib.hid (T.out.trans (hbd.mono T.out.size))
      clear hbd
      have HP := Lib.hid hP
      clear hP
      have HON := Lib.hid (HO.out.tot GR.out.1)
      have hNP : ON ≤ PN := by rw [HO.out.1, HP.out.1]; exact jo_len_le GR.out
      have hcO : c ≤ ON := by rw [HO.out.1, ← HC.out]; exact (cpl_le _ _).1
      have hcO' : (c : Int) ≤ (ON : Int) := by omega
      have hcP : c ≤ PN := by omega
      have hcOc : c ≤ Oc := by omega
      have hcPc : c ≤ Pc := by omega
      have HKO : Hid (VaOk F (c : Int)) := ⟨GR.out.1, by omega, by have := HON.out; omega⟩
      have HKP : Hid (VaOk G (c : Int)) := ⟨GR.out.2.1, by omega, by have := HON.out; have := GR.out.tot; omega⟩
      have HRE : Hid (vw G c = vw F c) := vw_cpl GR.out (by rw [HC.out]; exact Nat.le_refl _)
      obtain ⟨R, hR⟩ : ∃ R, vw F c = R := ⟨_, rfl⟩
      rw [hR] at HRE
      go_wp2_with fail
      refine (viewAt_c F _ (c : Int) _ HV.out).mono ?_
      rintro e w6 ⟨vx, rfl, hX, hbd⟩
      have HV := Lib.hid (HV.out.below hbd)
      have HU := Lib.hid (HU.out.below hbd)
      have HO := Lib.hid (HO.out.below hbd)
      have HP := Lib.hid (HP.out.below hbd)
      have T := Lib.hid (T.out.trans (hbd.mono T.out.size))
      clear hbd
      rw [vaL_t HKO.out, Int.toNat_natCast, hR] at hX
      rw [vaB_t HKO.out]
      clear hR
      have HX := Lib.hid hX
      clear hX
      go_wp2_with fail
      refine (viewAt_c G _ (c : Int) _ HU.out).mono ?_
      rintro e w7 ⟨vy, rfl, hY, hbd⟩
      have HV := Lib.hid (HV.out.below hbd)
      have HU := Lib.hid (HU.out.below hbd)
      have HO := Lib.hid (HO.out.below hbd)
      have HP := Lib.hid (HP.out.below hbd)
      have HX := Lib.hid (own_below HX.out hbd)
      have T := Lib.hid (T.out.trans (hbd.mono T.out.size))
      clear hbd
      rw [vaL_t HKP.out, Int.toNat_natCast, HRE.out] at hY
      rw [vaB_t HKP.out]
      have HY := Lib.hid hY
      clear hY
      have HT : Hid ((jo G).take c = (jo F).take c) := by show _ = _; rw [← HC.out]; exact (cpl_take _ _).symm
      by_cases he : c = ON
      · have hq1 : ((c : Int) == (ON : Int)) = true := by rw [beq_iff_eq]; omega
        clear he
        go_wp2
        refine wp_region_sub (by kernel_rfl) (by kernel_rfl) ?_
        repeat (go_big_quiet_step (first | exact Calls.sub (v := .bool true) (fun w hb => sameRefs_two w (HO.out.below hb) (HP.out.below hb) hcO hcP HT.out) | exact Calls.sub (v := .bool true) (fun w hb => samePairs_c _ _ R w (Rd.of_own (own_below HX.out hb)) (Rd.of_own (own_below HY.out hb)))))
        refine wpQuiet_nil ?_
        rintro _ ⟨xs, rfl⟩
        have HZ := Lib.hid (T.out.trans (xs.b.mono T.out.size))
        go_wp2
        go_ret
        exact ⟨rfl, HZ.out⟩
      · have hq1 : ((c : Int) == (ON : Int)) = false := by rw [beq_eq_false_iff_ne]; omega
        have hq2 : ((c : Int) == (PN : Int)) = false := by rw [beq_eq_false_iff_ne]; omega
        have hcl : c < ON := by omega
        have hclP : c < PN := by omega
        have hclI : (c : Int) < (ON : Int) := by omega
        have hclJ : (c : Int) < (PN : Int) := by omega
        have HE : Hid ((jo F).getD c (0, 0) ≠ (jo G).getD c (0, 0)) := by
          rcases cpl_stop (jo F) (jo G) (0, 0) with e | e | e
          · rw [HC.out, ← HO.out.1] at e; omega
          · rw [HC.out, ← HP.out.1] at e; omega
          · rw [HC.out] at e; exact e
        obtain ⟨g, o, x, y, ev, d1, d2, HA, x3, yL⟩ := (HO.out).at GR.out.1 (k := c) hcl
        obtain ⟨g', o', x', y', ev', e1, e2, HA', x3', yL'⟩ := (HP.out).at GR.out.2.1 (k := c) hclP
        subst ev
        subst ev'
        have hA : Hid ((jo F).getD c (0, 0) = ((x : Int), (y : Int))) := by show _ = _; rw [jo_at GR.out.1 (by have := HON.out; omega), HA.out.1, HA.out.2]
        have hB : Hid ((jo G).getD c (0, 0) = ((x' : Int), (y' : Int))) := by show _ = _; rw [jo_at GR.out.2.1 (by have := HON.out; have := GR.out.tot; omega), HA'.out.1, HA'.out.2]
        have hxy : ¬ (x = x' ∧ y = y') := fun e => HE.out (by rw [hA.out, hB.out, e.1, e.2])
        have hc : ((x : Int) == (x' : Int)) = false ∨ (((x : Int) == (x' : Int)) = true ∧ ((y : Int) == (y' : Int)) = false) := by
          rw [beq_eq_false_iff_ne, beq_eq_false_iff_ne, beq_iff_eq]
          by_cases e : x = x'
          · exact .inr ⟨by omega, fun h => hxy ⟨e, by omega⟩⟩
          · exact .inl (by omega)
        have r1 := fun (s : Sub w7) => s.cell d1
        have r2 := fun (s : Sub w7) => s.cell d2
        have r3 := fun (s : Sub w7) => s.cell e1
        have r4 := fun (s : Sub w7) => s.cell e2
        clear hxy
        rcases hc with heq | ⟨heq, heq2⟩
        all_goals
          go_wp2
          refine wp_region_sub (by kernel_rfl) (by kernel_rfl) ?_
          repeat (go_big_quiet_step (first | exact Calls.sub (v := .bool true) (fun w hb => sameRefs_two w (HO.out.below hb) (HP.out.below hb) hcO hcP HT.out) | exact Calls.sub (v := .bool true) (fun w hb => samePairs_c _ _ R w (Rd.of_own (own_below HX.out hb)) (Rd.of_own (own_below HY.out hb)))))
          refine wpQuiet_nil ?_
          rintro _ ⟨xs, rfl⟩
          have HZ := Lib.hid (T.out.trans (xs.b.mono T.out.size))
          go_wp2
          go_ret
          exact ⟨rfl, HZ.out⟩
    · rw [vkv_f hg]
      clear hg
      go_wp2
      go_ret
      exact ⟨rfl, T.out⟩
end Go.Proofs.Ytedcolbbbohbaaa
