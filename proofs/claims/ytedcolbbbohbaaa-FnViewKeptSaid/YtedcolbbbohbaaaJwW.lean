/- Walks: ViewGrows of the reference; ViewKept. -/
import Derived.Test.YtedcolbbbohbaaaJwV
import Derived.Test.YtedcolbbbohbaaaSub
import Derived.Test.YtedcolbbbohbaaaJwI
namespace Go.Proofs.Ytedcolbbbohbaaa
open Go.RowKit
set_option maxHeartbeats 1600000 in
theorem l32Same_c {S S' : Nat → Prop} (va vb : Value) (c d : List Int) (x1 y1 x2 y2 : Int) (w : World) (ha : RdS S 1 w va 3 (enc1 c)) (hc : c.length = 3) (hb : RdS S' 1 w vb 3 (enc1 d)) (hd : d.length = 3) :
    Calls Try.prog 38 #[.agg #[va, .int .i64 x1, .int .i64 y1], .agg #[vb, .int .i64 x2, .int .i64 y2]] w (RetB2 (eqB ((c, x1, y1) : Ent) (d, x2, y2)) w) := by
  obtain ⟨a1, c1, rfl, h1, h2⟩ := ha.shape
  obtain ⟨a2, c2, rfl, h3, h4⟩ := hb.shape
  unfold maxLen at h2 h4
  have HC := Lib.hid hc
  have HDl := Lib.hid hd
  obtain ⟨b, hbe⟩ : ∃ b, eqB ((c, x1, y1) : Ent) (d, x2, y2) = b := ⟨_, rfl⟩
  rw [hbe]
  have NO : Hid (((c, x1, y1) : Ent) ≠ (d, x2, y2) → false = b) := fun h => by rw [← hbe, eqB_f h]
  have YES : Hid (((c, x1, y1) : Ent) = (d, x2, y2) → true = b) := fun h => by rw [← hbe, eqB_t h]
  obtain ⟨w1, hw1⟩ : ∃ w1, w1 = (w.alloc (.cells #[.slice a1 3 c1, .int .i64 x1, .int .i64 y1] 46)).alloc (.cells #[.slice a2 3 c2, .int .i64 x2, .int .i64 y2] 46) := ⟨_, rfl⟩
  have hb1 : Below w.heap.size w w1 := by rw [hw1]; (repeat' (first | exact Below.refl _ _ | assumption | refine Below.drew ?_ | refine below_drewN ?_ _ | refine Below.alloc ?_ (by omega) _ | refine Below.alloc ?_ (by simp; omega) _ | refine Below.alloc ?_ (by simp) _ | refine Below.setCell ?_ (by omega) _ | refine Below.setCell ?_ (by simp; omega) _ | refine Below.setCell ?_ (by simp) _))
  have K0 : w1.cell? ⟨w.heap.size, 0, none⟩ = some (.slice a1 3 c1) := by rw [hw1]; simp
  have K1 : w1.cell? ⟨w.heap.size, 1, none⟩ = some (.int .i64 x1) := by rw [hw1]; simp
  have K2 : w1.cell? ⟨w.heap.size, 2, none⟩ = some (.int .i64 y1) := by rw [hw1]; simp
  have K3 : w1.cell? ⟨w.heap.size + 1, 0, none⟩ = some (.slice a2 3 c2) := by rw [hw1]; simp
  have K4 : w1.cell? ⟨w.heap.size + 1, 1, none⟩ = some (.int .i64 x2) := by rw [hw1]; simp
  have K5 : w1.cell? ⟨w.heap.size + 1, 2, none⟩ = some (.int .i64 y2) := by rw [hw1]; simp
  have K := Lib.hid (And.intro K0 (And.intro K1 (And.intro K2 (And.intro K3 (And.intro K4 K5)))))
  have HA := Lib.hid (ha.below hb1)
  have HB := Lib.hid (hb.below hb1)
  have HB1 := Lib.hid hb1
  have HW1 := Lib.hid hw1
  clear ha hb hc hd hbe hb1 hw1 K0 K1 K2 K3 K4 K5
  go_enter Try.func38, Try.ntmps38
  go_wp2
  rw [← HW1.out]
  go_loopw [5] (fun k' wr => ∃ k : Nat, k ≤ 3 ∧ k' = .int .i64 k ∧ Hid (Below w1.heap.size w1 wr) ∧ Hid (∀ j, j < k → c.getD j 0 = d.getD j 0)) (fun k' _ => 3 - (intOf k').toNat)
  case atStart => exact ⟨0, Nat.zero_le _, rfl, Below.refl _ _, fun j hj => absurd hj (Nat.not_lt_zero _)⟩
  case round =>
    obtain ⟨k, hk, rfl, HBr, HE⟩ := hrel
    have k0 := cell_keep HBr.out K.out.1
    have k1 := cell_keep HBr.out K.out.2.1
    have k2 := cell_keep HBr.out K.out.2.2.1
    have k3 := cell_keep HBr.out K.out.2.2.2.1
    have k4 := cell_keep HBr.out K.out.2.2.2.2.1
    have k5 := cell_keep HBr.out K.out.2.2.2.2.2
    have HBW := Lib.hid (HB1.out.trans (HBr.out.mono HB1.out.size))
    by_cases hlt : k < 3
    · have hlt' : (k : Int) < 3 := by omega
      obtain ⟨b1, o1, cc1, x, ev, -, -, u1, HX⟩ := (HA.out.below HBr.out).num2 HC.out hlt
      simp only [Value.slice.injEq] at ev
      obtain ⟨rfl, -, rfl⟩ := ev
      obtain ⟨b2, o2, cc2, y, ev, -, -, u2, HY⟩ := (HB.out.below HBr.out).num2 HDl.out hlt
      simp only [Value.slice.injEq] at ev
      obtain ⟨rfl, -, rfl⟩ := ev
      have HD : Hid (∀ n, Below w1.heap.size w1 (wr.drewN n)) := fun n => by have := HBr.out; (repeat' (first | exact Below.refl _ _ | assumption | refine Below.drew ?_ | refine below_drewN ?_ _ | refine Below.alloc ?_ (by omega) _ | refine Below.alloc ?_ (by simp; omega) _ | refine Below.alloc ?_ (by simp) _ | refine Below.setCell ?_ (by omega) _ | refine Below.setCell ?_ (by simp; omega) _ | refine Below.setCell ?_ (by simp) _))
      by_cases hxy : x = y
      · subst hxy
        have HE' : Hid (∀ j, j < k + 1 → c.getD j 0 = d.getD j 0) := fun j hj => by
          by_cases e : j = k
          · subst e; rw [HX.out, HY.out]
          · exact HE.out j (by omega)
        go_wp2
        go_quiet (fail)
        go_wp2
        go_roundw
        case rel => exact ⟨k + 1, by omega, by go_num, HD.out _, HE'⟩
        case measure => simp [intOf]; omega
      · have hne : (x != y) = true := by rw [bne_iff_ne]; exact hxy
        have NO' := Lib.hid (NO.out (fun e => hxy (by have h1 : c = d := congrArg Prod.fst e; rw [← HX.out, ← HY.out, h1])))
        clear hxy
        go_wp2
        go_quiet (fail)
        go_wp2
        go_ret
        exact RetB2.of NO'.out (HB1.out.trans ((HD.out _).mono HB1.out.size))
    · obtain rfl : k = 3 := by omega
      have hcd : c = d := getD_ext 0 (HC.out.trans HDl.out.symm) (fun j hj => HE.out j (by rw [HC.out] at hj; exact hj))
      by_cases hx : x1 = x2
      · by_cases hy : y1 = y2
        · have Y' := Lib.hid (YES.out (by rw [hcd, hx, hy]))
          have hx' : (x1 == x2) = true := by rw [beq_iff_eq]; exact hx
          have hy' : (y1 == y2) = true := by rw [beq_iff_eq]; exact hy
          clear hcd hx hy
          go_wp2
          go_ret
          exact RetB2.of Y'.out HBW.out
        · have NO' := Lib.hid (NO.out (fun e => hy (by simp at e; exact e.2.2)))
          have hx' : (x1 == x2) = true := by rw [beq_iff_eq]; exact hx
          have hy' : (y1 == y2) = false := by rw [beq_eq_false_iff_ne]; exact hy
          clear hcd hx hy
          go_wp2
          go_ret
          exact RetB2.of NO'.out HBW.out
      · have NO' := Lib.hid (NO.out (fun e => hx (by simp at e; exact e.2.1)))
        have hx' : (x1 == x2) = false := by rw [beq_eq_false_iff_ne]; exact hx
        clear hcd hx
        go_wp2
        go_ret
        exact RetB2.of NO'.out HBW.out
theorem vgrB_grw {F G : Fd} (h : Grw F G) : vgrB F G = true := vgrB_t (grwR_iff.2 h)
theorem vgrB_not {F G : Fd} (h : ¬ Grw F G) : vgrB F G = false := vgrB_f (fun e => h (grwR_iff.1 e))
set_option maxRecDepth 100000 in
set_option maxHeartbeats 3200000 in
theorem specViewGrows_c {S S' : Nat → Prop} (F G : Fd) (fv gv : Value) (W : World) (hf : RdF S W fv F) (hg : RdF S' W gv G) :
    Calls Try.prog 15 #[fv, gv] W (RetB2 (vgrB F G) W) := by
  have HF := Lib.hid hf
  have HG := Lib.hid hg
  obtain ⟨a0, m0, c0, rfl, hm0, q1, q2⟩ : ∃ a m cap, fv = .slice a m cap ∧ m = F.length ∧ m ≤ cap ∧ cap ≤ maxLen := by
    obtain ⟨a, cap, rfl, h1, h2⟩ := hf.shape; exact ⟨a, _, cap, rfl, rfl, h1, h2⟩
  obtain ⟨a1, m1, c1, rfl, hm1, p1, p2⟩ : ∃ a m cap, gv = .slice a m cap ∧ m = G.length ∧ m ≤ cap ∧ cap ≤ maxLen := by
    obtain ⟨a, cap, rfl, h1, h2⟩ := hg.shape; exact ⟨a, _, cap, rfl, rfl, h1, h2⟩
  unfold maxLen at q2 p2
  have HM0 := Lib.hid hm0
  have HM1 := Lib.hid hm1
  obtain ⟨b, hbe⟩ : ∃ b, vgrB F G = b := ⟨_, rfl⟩
  rw [hbe]
  have NO : Hid (¬ Grw F G → false = b) := fun h => by rw [← hbe, vgrB_not h]
  have YES : Hid (Grw F G → true = b) := fun h => by rw [← hbe, vgrB_grw h]
  clear hf hg hm0 hm1 hbe
  go_enter Try.func15, Try.ntmps15
  go_wp2_with fail
  refine (specJoinValid_c F _ _ HF.out).mono ?_
  rintro e w1 ⟨rfl, hb1⟩
  have HB1 := Lib.hid hb1
  clear hb1
  by_cases hj : JV F
  · rw [jvB_t hj]
    have HJ := Lib.hid hj
    clear hj
    go_wp2_with fail
    refine (specJoinValid_c G _ _ (HG.out.below HB1.out)).mono ?_
    rintro e w2 ⟨rfl, hb2⟩
    have HB2 := Lib.hid (HB1.out.trans (hb2.mono HB1.out.size))
    clear hb2
    by_cases hk : JV G
    · rw [jvB_t hk]
      have HK := Lib.hid hk
      clear hk
      have hm3 : m0 = 3 := HM0.out.trans HJ.out.1
      have hn3 : m1 = 3 := HM1.out.trans HK.out.1
      subst hm3
      subst hn3
      go_wp2
      go_loopw [5] (fun v' wr => ∃ v : Nat, v ≤ 3 ∧ v' = .int .i64 v ∧ Hid (Below w2.heap.size w2 wr) ∧ Hid (∀ u, u < v → ln F u ≤ ln G u ∧ ∀ i, i < ln F u → ent G u i = ent F u i)) (fun v' _ => 3 - (intOf v').toNat)
      case atStart => exact ⟨0, Nat.zero_le _, rfl, Below.refl _ _, fun u hu => absurd hu (Nat.not_lt_zero _)⟩
      case round =>
        obtain ⟨v, hv, rfl, HBr, HE⟩ := hrel
        have HBW := Lib.hid (HB2.out.trans (HBr.out.mono HB2.out.size))
        by_cases hlt : v < 3
        · have hlt' : (v : Int) < 3 := by omega
          obtain ⟨b5, o5, c5, a6, c6, ev, -, -, q5, q6, q7, qa⟩ := (HF.out.below HBW.out).feed (j := v) (by rw [HJ.out.1]; exact hlt)
          rw [HJ.out.1] at ev
          simp only [Value.slice.injEq] at ev
          obtain ⟨rfl, -, rfl⟩ := ev
          obtain ⟨b7, o7, c7, a8, c8, ev, -, -, r5, r6, r7, ra⟩ := (HG.out.below HBW.out).feed (j := v) (by rw [HK.out.1]; exact hlt)
          rw [HK.out.1] at ev
          simp only [Value.slice.injEq] at ev
          obtain ⟨rfl, -, rfl⟩ := ev
          unfold maxLen at q7 r7
          obtain ⟨p, hp⟩ : ∃ p, ln F v = p := ⟨_, rfl⟩
          obtain ⟨q, hq⟩ : ∃ q, ln G v = q := ⟨_, rfl⟩
          rw [hp] at q5 q6 qa
          rw [hq] at r5 r6 ra
          have HP := Lib.hid (And.intro hp hq)
          have QA := Lib.hid qa
          have RA := Lib.hid ra
          have QQ := Lib.hid (And.intro q5 r5)
          clear hp hq qa ra
          by_cases hpq : p ≤ q
          · have hpq' : decide ((q : Int) < (p : Int)) = false := by simp; omega
            have hpq2 : ¬ (q < p) := by omega
            go_wp2
            go_quiet (fail)
            obtain ⟨w7, hw7⟩ : ∃ w7, w7 = wr.drewN nq := ⟨_, rfl⟩
            have hb7 : Below wr.heap.size wr w7 := by rw [hw7]; (repeat' (first | exact Below.refl _ _ | assumption | refine Below.drew ?_ | refine below_drewN ?_ _ | refine Below.alloc ?_ (by omega) _ | refine Below.alloc ?_ (by simp; omega) _ | refine Below.alloc ?_ (by simp) _ | refine Below.setCell ?_ (by omega) _ | refine Below.setCell ?_ (by simp; omega) _ | refine Below.setCell ?_ (by simp) _))
            rw [← hw7]
            clear hw7 q5 r5
            have HB7 := Lib.hid hb7
            obtain ⟨wi, hwi⟩ : ∃ wi : World, wi = wr := ⟨_, rfl⟩
            clear hb7
            go_wp2
            go_loopw [6] (fun i' wq => ∃ i : Nat, i ≤ p ∧ i' = .int .i64 i ∧ Hid (Below w7.heap.size w7 wq) ∧ Hid (∀ j, j < i → ent G v j = ent F v j)) (fun i' _ => p - (intOf i').toNat)
            case atStart => exact ⟨0, Nat.zero_le _, rfl, Below.refl _ _, fun u hu => absurd hu (Nat.not_lt_zero _)⟩
            case round =>
              subst hwi
              obtain ⟨i, hi, rfl, HBi, HEi⟩ := hrel
              obtain ⟨wo, rfl⟩ : ∃ wo : World, wo = wr := ⟨_, rfl⟩
              have HBX := Lib.hid (HB7.out.trans (HBi.out.mono HB7.out.size))
              have q5 := cell_keep HBX.out QQ.out.1
              have r5 := cell_keep HBX.out QQ.out.2
              by_cases hil : i < p
              · have hil' : (i : Int) < (p : Int) := by omega
                have hiq : (i : Int) < (q : Int) := by omega
                obtain ⟨b8, o8, e, aB, cB, rfl, he, d2, d3, d4, hrr⟩ := (QA.out.below HBX.out).entry hil
                obtain ⟨b9, o9, f, aC, cC, rfl, hf, f2, f3, f4, hss⟩ := (RA.out.below HBX.out).entry (show i < q by omega)
                have hLc := (HJ.out.2.2.1 v hlt i (by rw [HP.out.1]; exact hil)).1
                have hLd := (HK.out.2.2.1 v hlt i (by rw [HP.out.2]; omega)).1
                rw [show ent F v i = e from he.symm] at hLc
                rw [show ent G v i = f from hf.symm] at hLd
                obtain ⟨c, x1, y1⟩ := e
                obtain ⟨d, x2, y2⟩ := f
                simp only [] at d2 d3 d4 hrr f2 f3 f4 hss hLc hLd
                rw [hLc] at d2 hrr
                rw [hLd] at f2 hss
                have HE1 := Lib.hid he
                have HE2 := Lib.hid hf
                have HRR := Lib.hid hrr
                have HSS := Lib.hid hss
                have HLL := Lib.hid (And.intro hLc hLd)
                have z0 := fun (x : Sub wo) => x.cell q5
                have z1 := fun (x : Sub wo) => x.cell r5
                have z2 := fun (x : Sub wo) => x.cell d2
                have z3 := fun (x : Sub wo) => x.cell d3
                have z4 := fun (x : Sub wo) => x.cell d4
                have z5 := fun (x : Sub wo) => x.cell f2
                have z6 := fun (x : Sub wo) => x.cell f3
                have z7 := fun (x : Sub wo) => x.cell f4
                clear hrr hss he hf hLc hLd d2 d3 d4 f2 f3 f4
                by_cases hxy : ((c, x1, y1) : Ent) = (d, x2, y2)
                · have HT := Lib.hid (eqB_t hxy)
                  have HE' : Hid (∀ j, j < i + 1 → ent G v j = ent F v j) := fun j hj => by
                    by_cases e : j = i
                    · subst e
                      show (G.getD v []).getD j e0 = (F.getD v []).getD j e0
                      rw [← HE1.out, ← HE2.out, hxy]
                    · exact HEi.out j (by omega)
                  clear hxy
                  go_wp2
                  refine wp_region_sub (by kernel_rfl) (by kernel_rfl) ?_
                  repeat (go_big_quiet_step (exact Calls.sub (v := .bool true) (fun w hb => by have := l32Same_c _ _ c d x1 y1 x2 y2 w (HRR.out.below hb) HLL.out.1 (HSS.out.below hb) HLL.out.2; rwa [HT.out] at this)))
                  refine wpQuiet_nil ?_
                  rintro _ ⟨xs, rfl⟩
                  have HX := Lib.hid (HBi.out.trans (xs.b.mono HBi.out.size))
                  go_wp2
                  go_roundw
                  case rel => exact ⟨i + 1, by omega, by go_num, HX, HE'⟩
                  case measure => simp [intOf]; omega
                · have HT := Lib.hid (eqB_f hxy)
                  have NO' := Lib.hid (NO.out (fun hh => hxy (by
                    have := (hh.2.2 v hlt).2 i (by rw [HP.out.1]; exact hil)
                    change (G.getD v []).getD i e0 = (F.getD v []).getD i e0 at this
                    rw [← HE1.out, ← HE2.out] at this
                    exact this.symm)))
                  clear hxy
                  go_wp2
                  refine wp_region_sub (by kernel_rfl) (by kernel_rfl) ?_
                  repeat (go_big_quiet_step (exact Calls.sub (v := .bool false) (fun w hb => by have := l32Same_c _ _ c d x1 y1 x2 y2 w (HRR.out.below hb) HLL.out.1 (HSS.out.below hb) HLL.out.2; rwa [HT.out] at this)))
                  refine wpQuiet_nil ?_
                  rintro _ ⟨xs, rfl⟩
                  have HX := Lib.hid ((HBW.out.trans (HBX.out.mono HBW.out.size)).trans (xs.b.mono (HBW.out.trans (HBX.out.mono HBW.out.size)).size))
                  go_wp2
                  go_ret
                  exact RetB2.of NO'.out HX.out
              · obtain rfl : i = p := by omega
                have HE' : Hid (∀ u, u < v + 1 → ln F u ≤ ln G u ∧ ∀ j, j < ln F u → ent G u j = ent F u j) := fun u hu => by
                  by_cases e : u = v
                  · subst e; rw [HP.out.1, HP.out.2]; exact ⟨hpq, HEi.out⟩
                  · exact HE.out u (by omega)
                have HX := Lib.hid (HBr.out.trans (HBX.out.mono HBr.out.size))
                go_wp2
                go_roundw
                case rel => exact ⟨v + 1, by omega, by go_num, HX, HE'⟩
                case measure => simp [intOf]; omega
          · have hpq' : decide ((q : Int) < (p : Int)) = true := by simp; omega
            have hpq2 : q < p := by omega
            have NO' := Lib.hid (NO.out (fun hh => by have := (hh.2.2 v hlt).1; rw [HP.out.1, HP.out.2] at this; exact hpq this))
            go_wp2
            go_quiet (fail)
            go_wp2
            go_ret
            exact RetB2.of NO'.out (by have := HBW.out; (repeat' (first | exact Below.refl _ _ | assumption | refine Below.drew ?_ | refine below_drewN ?_ _ | refine Below.alloc ?_ (by omega) _ | refine Below.alloc ?_ (by simp; omega) _ | refine Below.alloc ?_ (by simp) _ | refine Below.setCell ?_ (by omega) _ | refine Below.setCell ?_ (by simp; omega) _ | refine Below.setCell ?_ (by simp) _)))
        · obtain rfl : v = 3 := by omega
          have Y' := Lib.hid (YES.out ⟨HJ.out, HK.out, HE.out⟩)
          go_wp2
          go_ret
          exact RetB2.of Y'.out HBW.out
    · rw [jvB_f hk]
      have NO' := Lib.hid (NO.out (fun hh => hk hh.2.1))
      clear hk
      go_wp2
      go_ret
      exact RetB2.of NO'.out HB2.out
  · rw [jvB_f hj]
    have NO' := Lib.hid (NO.out (fun hh => hj hh.1))
    clear hj
    go_wp2
    go_ret
    exact RetB2.of NO'.out HB1.out
end Go.Proofs.Ytedcolbbbohbaaa
