/- The walks of more laws on a further entry. -/
import Derived.Test.YthnepmhkeceadaaLAa
import Derived.Deep.RegionLaw
namespace Go.Proofs.Ythnepmhkeceadaa
open Go.RowKit
attribute [local go_sem ↓] Go.wp_at_zero Go.wp_at_succ
set_option maxRecDepth 100000 in
set_option maxHeartbeats 6400000 in
theorem lawFnAppend_c (w : World) (v : Value) (n : Nat) (h : RdB w v n) : Calls Try.prog 3 #[v] w fun e w' => e = .returned (.bool true) ∧ Below w.heap.size w w' := by
  have hB := h
  obtain ⟨a, cap, rfl, h1, h2, -⟩ := h
  unfold maxLen at h2
  by_cases hn : 1048576 < n
  · go_enter Try.func3, Try.ntmps3
    go_wp2
    go_ret
    exact ⟨rfl, Below.refl _ _⟩
  · go_enter Try.func3, Try.ntmps3
    go_wp2_with fail
    refine (drawJoinAppend_c _ n _ hB).mono ?_
    rintro e w1 ⟨v, F, x, kv, ks, key, val, rfl, hF, hk, hbd⟩
    have HV := Lib.hid hF
    have HK := Lib.hid hk
    have T := Lib.hid hbd
    clear hF hk hbd
    go_wp2_with fail
    refine (joinAppend_c F _ x _ ks key val _ HV.out HK.out).mono ?_
    rintro e w2 ⟨vo, rfl, hO, hbd⟩
    have HV := Lib.hid (HV.out.below hbd)
    have HK := Lib.hid (HK.out.below hbd)
    have T := Lib.hid (T.out.trans (hbd.mono T.out.size))
    clear hbd
    have HO := Lib.hid hO
    clear hO
    go_wp2_with fail
    refine (specJoinAppend_c F _ x _ ks key val _ HV.out HK.out).mono ?_
    rintro e w3 ⟨vw, rfl, hW, hbd⟩
    have HV := Lib.hid (HV.out.below hbd)
    have HK := Lib.hid (HK.out.below hbd)
    have HO := Lib.hid (HO.out.below hbd)
    have T := Lib.hid (T.out.trans (hbd.mono T.out.size))
    clear hbd
    have HW := Lib.hid hW
    clear hW
    by_cases hok : AppArgs F x ks key val
    · rw [jaB_t hok]
      go_wp2_with fail
      refine (sameEntries_c _ _ _ _ HO.out.rd HW.out.rd).mono ?_
      rintro e w4 ⟨rfl, hbd⟩
      have HV := Lib.hid (HV.out.below hbd)
      have HK := Lib.hid (HK.out.below hbd)
      have HO := Lib.hid (HO.out.below hbd)
      have HW := Lib.hid (HW.out.below hbd)
      have T := Lib.hid (T.out.trans (hbd.mono T.out.size))
      clear hbd
      obtain ⟨m, rfl⟩ := Int.eq_ofNat_of_zero_le hok.2.1.1
      have OK := Lib.hid hok
      have AP := Lib.hid (app_facts hok)
      obtain ⟨G, hG⟩ : ∃ G, jaF F m ks key val = G := ⟨_, rfl⟩
      rw [hG] at HO AP
      clear hok hG HW
      obtain ⟨a0, m0, cap0, rfl, hm0, q1, q2⟩ := HV.out.len
      have hm3 : m0 = 3 := hm0.trans AP.out.jv.1
      clear hm0
      subst hm3
      unfold maxLen at q2
      obtain ⟨ao, mo, co, rfl, hmo, p1, p2⟩ := HO.out.rd.len
      have hmo3 : mo = 3 := hmo.trans AP.out.grw.2.1.1
      clear hmo
      subst hmo3
      unfold maxLen at p2
      have hm3 := AP.out.hm
      have hm3' : (m : Int) < 3 := by omega
      have h8 := AP.out.h8
      obtain ⟨L, hL⟩ : ∃ L, ln F m = L := ⟨_, rfl⟩
      obtain ⟨N, hN⟩ : ∃ N, N = L + 1 := ⟨_, rfl⟩
      have HLG : Hid (ln G m = N) := by show _ = _; rw [AP.out.ln, if_pos rfl, hL, hN]
      have HNEW : Hid (ent G m L = (newc F m (kf F m ks), key, val)) := by rw [← hL]; exact AP.out.new
      rw [hL] at h8
      have HL := Lib.hid hL
      have HN := Lib.hid hN
      have hNL : L < N := by omega
      have hN9 : N ≤ 9 := by omega
      clear hL hN
      obtain ⟨bO, oO, cO, bR, oR, cR, aN, cN, ev, -, -, r0, rl, rc, e0', e1', e2', hrn⟩ := HO.out.rd.entry (j := m) (i := L) (by rw [AP.out.grw.2.1.1]; exact hm3) (by rw [HLG.out]; exact hNL)
      rw [AP.out.grw.2.1.1] at ev
      simp only [Value.slice.injEq] at ev
      obtain ⟨rfl, -, rfl⟩ := ev
      rw [HLG.out] at r0 rl
      rw [HNEW.out] at e0' e1' e2' hrn
      have hnl : (newc F m (kf F m ks)).length = 3 := rfl
      simp only [hnl] at e0' e1' e2' hrn
      unfold maxLen at rc
      have HRN := Lib.hid hrn
      have hw1 : IntKind.i64.wrap ((N : Int) - 1) = (L : Int) := by rw [IntKind.wrap_i64]; have := HN.out; omega
      have hNL' : (L : Int) < (N : Int) := by omega
      obtain ⟨we, hwe⟩ : ∃ we, we = w4.alloc (.cells #[.slice aN 3 cN, .int .i64 key, .int .i64 val] 32) := ⟨_, rfl⟩
      have hbe : Below w4.heap.size w4 we := by rw [hwe]; (repeat' (first | exact Below.refl _ _ | assumption | refine Below.drew ?_ | refine below_drewN ?_ _ | refine Below.alloc ?_ (by omega) _ | refine Below.alloc ?_ (by simp; omega) _ | refine Below.alloc ?_ (by simp) _ | refine Below.setCell ?_ (by omega) _ | refine Below.setCell ?_ (by simp; omega) _ | refine Below.setCell ?_ (by simp) _))
      have E0 : Hid (we.cell? ⟨w4.heap.size, 0, none⟩ = some (.slice aN 3 cN)) := by show _ = _; rw [hwe]; simp
      have E1 : Hid (we.cell? ⟨w4.heap.size, 1, none⟩ = some (.int .i64 key)) := by show _ = _; rw [hwe]; simp
      have E2 : Hid (we.cell? ⟨w4.heap.size, 2, none⟩ = some (.int .i64 val)) := by show _ = _; rw [hwe]; simp
      have HWE := Lib.hid hwe
      clear hrn hwe hnl
      have HV := Lib.hid (HV.out.below hbe)
      have HK := Lib.hid (HK.out.below hbe)
      have HO := Lib.hid (HO.out.below hbe)
      have HRN := Lib.hid (HRN.out.below hbe)
      have T := Lib.hid (T.out.trans (hbe.mono T.out.size))
      clear hbe
      go_wp2
      rw [← HWE.out]
      go_loopw [14] (fun v' wr => ∃ v : Nat, v ≤ 3 ∧ v' = .int .i64 v ∧ Hid (Below we.heap.size we wr)) (fun v' _ => 3 - (intOf v').toNat)
      case atStart => exact ⟨0, Nat.zero_le _, rfl, Below.refl _ _⟩
      case round =>
        clear r0 e0' e1' e2'
        obtain ⟨v, hv, rfl, HBv⟩ := hrel
        obtain ⟨wi, hwi⟩ : ∃ wi : World, wi = wr := ⟨_, rfl⟩
        have HOr := Lib.hid (HO.out.below HBv.out)
        have HVr := Lib.hid (HV.out.below HBv.out)
        have HTr := Lib.hid (T.out.trans (HBv.out.mono T.out.size))
        by_cases hlt : v < 3
        · have hlt' : (v : Int) < 3 := by omega
          obtain ⟨b5, o5, c5, a6, c6, ev, -, -, q5, q6, q7, -⟩ := HOr.out.rd.feed (j := v) (by rw [AP.out.grw.2.1.1]; exact hlt)
          rw [AP.out.grw.2.1.1] at ev
          simp only [Value.slice.injEq, Option.some.injEq, Addr.mk.injEq, and_true] at ev
          obtain ⟨⟨rfl, rfl⟩, -, rfl⟩ := ev
          obtain ⟨b7, o7, c7, a8, c8, ev, -, -, r5, r6, r7, -⟩ := HVr.out.feed (j := v) (by rw [AP.out.jv.1]; exact hlt)
          rw [AP.out.jv.1] at ev
          simp only [Value.slice.injEq] at ev
          obtain ⟨rfl, -, rfl⟩ := ev
          unfold maxLen at q7 r7
          have HD : Hid (∀ n, Below we.heap.size we (wr.drewN n)) := fun n => by have := HBv.out; (repeat' (first | exact Below.refl _ _ | assumption | refine Below.drew ?_ | refine below_drewN ?_ _ | refine Below.alloc ?_ (by omega) _ | refine Below.alloc ?_ (by simp; omega) _ | refine Below.alloc ?_ (by simp) _ | refine Below.setCell ?_ (by omega) _ | refine Below.setCell ?_ (by simp; omega) _ | refine Below.setCell ?_ (by simp) _))
          by_cases hvm : v = m
          · have hp : ln G v = N := by rw [hvm]; exact HLG.out
            have hr : ln F v = L := by rw [hvm]; exact HL.out
            rw [hp] at q5 q6
            rw [hr] at r5 r6
            have hvm' : ((v : Int) != (m : Int)) = false := by rw [bne_eq_false_iff_eq]; omega
            have hne : ((N : Int) != (L : Int)) = true := by rw [bne_iff_ne]; omega
            have hne' : ((N : Int) != (L : Int) + 1) = false := by rw [bne_eq_false_iff_eq]; have := HN.out; omega
            have hwL : IntKind.i64.wrap ((L : Int) + 1) = (L : Int) + 1 := by rw [IntKind.wrap_i64]; omega
            clear hp hr hvm
            go_wp2
            go_quiet (fail)
            go_wp2
            go_roundw
            case rel => exact ⟨v + 1, by omega, by go_num, HD.out _⟩
            case measure => simp [intOf]; omega
          · have hp : ln G v = ln F v := by rw [AP.out.ln, if_neg hvm]
            obtain ⟨p, hpe⟩ : ∃ p, ln F v = p := ⟨_, rfl⟩
            rw [hp, hpe] at q5 q6
            rw [hpe] at r5 r6
            clear hp hpe hvm
            go_wp2
            go_quiet (fail)
            go_wp2
            go_roundw
            case rel => exact ⟨v + 1, by omega, by go_num, HD.out _⟩
            case measure => simp [intOf]; omega
        · have HBe := HBv
          clear HBv
          have HS0 : Hid (ShF wr.heap.size (wr.alloc (.cells #[] 30)) (.slice (some ⟨wr.heap.size, 0, none⟩) 0 0) (F.take 0)) := ShF.nil (own_empty wr wr.heap.size 30 1 (Nat.le_refl _))
          have HB0 : Hid (Below wr.heap.size wr (wr.alloc (.cells #[] 30))) := (Below.refl _ _).alloc (Nat.le_refl _) _
          have HE := Lib.hid (And.intro (cell_keep HBe.out E0.out) (And.intro (cell_keep HBe.out E1.out) (cell_keep HBe.out E2.out)))
          obtain rfl : v = 3 := by omega
          go_wp2
          go_loopw [15, 16] (fun o' v' wq => ∃ v : Nat, v ≤ 3 ∧ v' = .int .i64 v ∧ Hid (ShF wi.heap.size wq o' (F.take v)) ∧ Hid (Below wi.heap.size wi wq)) (fun _ v' _ => 3 - (intOf v').toNat)
          case atStart => exact ⟨0, Nat.zero_le _, rfl, by subst hwi; exact HS0, by subst hwi; exact HB0⟩
          case round =>
            subst hwi
            clear HS0 HB0
            obtain ⟨v, hv, rfl, HS, HBr⟩ := hrel
            by_cases hlt : v < 3
            · have hlt' : (v : Int) < 3 := by omega
              obtain ⟨b5, o5, c5, a6, c6, ev, -, -, q5, q6, q7, qa⟩ := HOr.out.rd.feed (j := v) (by rw [AP.out.grw.2.1.1]; exact hlt)
              rw [AP.out.grw.2.1.1] at ev
              simp only [Value.slice.injEq, Option.some.injEq, Addr.mk.injEq, and_true] at ev
              obtain ⟨⟨rfl, rfl⟩, -, rfl⟩ := ev
              obtain ⟨b7, o7, c7, a8, c8, ev, -, -, r5, r6, r7, -⟩ := HVr.out.feed (j := v) (by rw [AP.out.jv.1]; exact hlt)
              rw [AP.out.jv.1] at ev
              simp only [Value.slice.injEq] at ev
              obtain ⟨rfl, -, rfl⟩ := ev
              unfold maxLen at q7 r7
              have q5 := cell_keep HBr.out q5
              have r5 := cell_keep HBr.out r5
              have hle := (AP.out.grw.2.2 v hlt).1
              have hrow := AP.out.row v
              have HR := Lib.hid (show RdR (fun b => b < wi.heap.size) wr (.slice a6 (ln F v) c6) (F.getD v []) by rw [← hrow]; exact ((qa.take hle).sub (S' := fun b => b < wi.heap.size) (fun _ hk _ => hk)).below HBr.out)
              have HEt : Hid (F.take (v + 1) = F.take v ++ [F.getD v []]) := take_snoc_getD _ v [] (by rw [AP.out.jv.1]; exact hlt)
              have HLt : Hid ((F.take v).length = v) := by show _ = _; rw [List.length_take, AP.out.jv.1]; omega
              obtain ⟨p, hpe⟩ : ∃ p, ln F v = p := ⟨_, rfl⟩
              obtain ⟨g, hge⟩ : ∃ g, ln G v = g := ⟨_, rfl⟩
              rw [hpe] at r5 r6 hle HR
              rw [hge] at q5 q6 hle
              have hpc : p ≤ c6 := by omega
              have hBz := HBr.out.size
              have HBd : Hid (Below wi.heap.size wi (wr.drew.alloc (.cells #[.slice a6 p c6] 30))) := by have := HBr.out; show Below _ _ _; (repeat' (first | exact Below.refl _ _ | assumption | refine Below.drew ?_ | refine below_drewN ?_ _ | refine Below.alloc ?_ (by omega) _ | refine Below.alloc ?_ (by simp; omega) _ | refine Below.alloc ?_ (by simp) _ | refine Below.setCell ?_ (by omega) _ | refine Below.setCell ?_ (by simp; omega) _ | refine Below.setCell ?_ (by simp) _))
              clear qa hpe hge hrow
              go_wp2
              go_region_law (refine step_pushS (B := wi.heap.size) _ rfl (.tmp 115) (.tmp 126) 23 rfl Try.underlying23 _ (F.take v) (by simp [Act.eval, Act.put]) (ShF.below HS.out (by (repeat' (first | exact Below.refl _ _ | assumption | refine Below.drew ?_ | refine below_drewN ?_ _ | refine Below.alloc ?_ (by omega) _ | refine Below.alloc ?_ (by simp; omega) _ | refine Below.alloc ?_ (by simp) _ | refine Below.setCell ?_ (by omega) _ | refine Below.setCell ?_ (by simp; omega) _ | refine Below.setCell ?_ (by simp) _)))) (.slice a6 p c6) (F.getD v []) (RdR.below HR.out (by (repeat' (first | exact Below.refl _ _ | assumption | refine Below.drew ?_ | refine below_drewN ?_ _ | refine Below.alloc ?_ (by omega) _ | refine Below.alloc ?_ (by simp; omega) _ | refine Below.alloc ?_ (by simp) _ | refine Below.setCell ?_ (by omega) _ | refine Below.setCell ?_ (by simp; omega) _ | refine Below.setCell ?_ (by simp) _)))) wr.heap.size 1 (by simp [Act.eval, Act.put]) (by simp) (by rw [HLt.out]; omega) (by simp; omega) ?_; intro v' w6 ho hg; have HO6 := Lib.hid (show ShF wi.heap.size w6 v' (F.take (v + 1)) from by rw [HEt.out]; exact ho); have HB6 := Lib.hid (HBd.out.grown hg HBd.out.size (fun b hb => (HS.out.blk b hb))); clear ho hg)
              all_goals
                go_wp2
                go_roundw
                case rel => first | exact ⟨v + 1, by omega, by go_num, HO6, HB6⟩ | exact ⟨_, v + 1, by omega, by go_num, HO6, HB6⟩ | ((repeat apply Exists.intro); exact ⟨⟨v + 1, by omega, by go_num, HO6, HB6⟩, rfl⟩)
                case measure => simp [intOf]; omega
            · obtain rfl : v = 3 := by omega
              have hsf := HS.out.rd
              rw [List.take_of_length_le (by rw [AP.out.jv.1]; exact Nat.le_refl _)] at hsf
              have HSf := Lib.hid hsf
              clear hsf
              have HOq := Lib.hid (HOr.out.below HBr.out)
              have HVq := Lib.hid (HVr.out.below HBr.out)
              have HTq := Lib.hid (HTr.out.trans (HBr.out.mono HTr.out.size))
              have HJG := Lib.hid (jvB_t AP.out.grw.2.1)
              obtain ⟨b9, o9, c9, y, ev, -, m9, d3, HYY⟩ := ((HRN.out.below HBe.out).below HBr.out).num2 (show (newc F m (kf F m ks)).length = 3 from rfl) hm3
              simp only [Value.slice.injEq] at ev
              obtain ⟨rfl, -, rfl⟩ := ev
              unfold maxLen at m9
              obtain rfl : y = (L : Int) + 1 := by have := HYY.out; rw [newc_at _ _ hm3, if_pos rfl, HL.out] at this; exact this.symm
              have HEr := Lib.hid (And.intro (cell_keep HBr.out HE.out.1) (And.intro (cell_keep HBr.out HE.out.2.1) (cell_keep HBr.out HE.out.2.2)))
              have HD3 := Lib.hid d3
              have hy1 : ((L : Int) + 1 == (N : Int)) = true := by rw [beq_iff_eq]; have := HN.out; omega
              clear d3
              go_wp2_with fail
              refine (joinValid_c G _ _ HOq.out.rd).mono ?_
              rintro e w11 ⟨rfl, hbd⟩
              rw [HJG.out]
              have x0 := cell_keep hbd HEr.out.1
              have x1 := cell_keep hbd HEr.out.2.1
              have x2 := cell_keep hbd HEr.out.2.2
              have x3 := cell_keep hbd HD3.out
              have HB11 := Lib.hid hbd
              clear hbd
              go_wp2_with fail
              refine (sameEntries_c _ _ F _ (HSf.out.below HB11.out) (HVq.out.below HB11.out)).mono ?_
              rintro e w12 ⟨rfl, hbd2⟩
              have HB12 := Lib.hid (HTq.out.trans ((HB11.out.trans (hbd2.mono HB11.out.size)).mono HTq.out.size))
              clear hbd2
              go_wp2
              go_ret
              exact ⟨rfl, HB12.out⟩
    · rw [jaB_f hok]
      clear hok
      go_wp2_with fail
      refine (sameEntries_c _ _ _ _ HO.out.rd HW.out.rd).mono ?_
      rintro e w4 ⟨rfl, hbd⟩
      have HV := Lib.hid (HV.out.below hbd)
      have HK := Lib.hid (HK.out.below hbd)
      have HO := Lib.hid (HO.out.below hbd)
      have HW := Lib.hid (HW.out.below hbd)
      have T := Lib.hid (T.out.trans (hbd.mono T.out.size))
      clear hbd
      go_wp2_with fail
      refine (sameEntries_c _ _ _ _ HO.out.rd HW.out.rd).mono ?_
      rintro e w5 ⟨rfl, hbd⟩
      have HV := Lib.hid (HV.out.below hbd)
      have HK := Lib.hid (HK.out.below hbd)
      have HO := Lib.hid (HO.out.below hbd)
      have HW := Lib.hid (HW.out.below hbd)
      have T := Lib.hid (T.out.trans (hbd.mono T.out.size))
      clear hbd
      go_wp2
      go_ret
      exact ⟨rfl, T.out⟩
set_option maxRecDepth 100000 in
set_option maxHeartbeats 6400000 in
theorem lawFnAppendKnows_c (w : World) (v : Value) (n : Nat) (h : RdB w v n) : Calls Try.prog 4 #[v] w fun e w' => e = .returned (.bool true) ∧ Below w.heap.size w w' := by
  have hB := h
  obtain ⟨a, cap, rfl, h1, h2, -⟩ := h
  unfold maxLen at h2
  by_cases hn : 1048576 < n
  · go_enter Try.func4, Try.ntmps4
    go_wp2
    go_ret
    exact ⟨rfl, Below.refl _ _⟩
  · go_enter Try.func4, Try.ntmps4
    go_wp2_with fail
    refine (drawJoinAppend_c _ n _ hB).mono ?_
    rintro e w1 ⟨v, F, x, kv, ks, key, val, rfl, hF, hk, hbd⟩
    have HV := Lib.hid hF
    have HK := Lib.hid hk
    have T := Lib.hid hbd
    clear hF hk hbd
    go_wp2_with fail
    refine (joinAppend_c F _ x _ ks key val _ HV.out HK.out).mono ?_
    rintro e w2 ⟨vo, rfl, hO, hbd⟩
    have HV := Lib.hid (HV.out.below hbd)
    have HK := Lib.hid (HK.out.below hbd)
    have T := Lib.hid (T.out.trans (hbd.mono T.out.size))
    clear hbd
    have HO := Lib.hid hO
    clear hO
    go_wp2_with fail
    refine (specJoinAppend_c F _ x _ ks key val _ HV.out HK.out).mono ?_
    rintro e w3 ⟨vw, rfl, hW, hbd⟩
    have HV := Lib.hid (HV.out.below hbd)
    have HK := Lib.hid (HK.out.below hbd)
    have HO := Lib.hid (HO.out.below hbd)
    have T := Lib.hid (T.out.trans (hbd.mono T.out.size))
    clear hbd
    have HW := Lib.hid hW
    clear hW
    by_cases hok : AppArgs F x ks key val
    · rw [jaB_t hok]
      go_wp2_with fail
      refine (sameEntries_c _ _ _ _ HO.out.rd HW.out.rd).mono ?_
      rintro e w4 ⟨rfl, hbd⟩
      have HV := Lib.hid (HV.out.below hbd)
      have HK := Lib.hid (HK.out.below hbd)
      have HO := Lib.hid (HO.out.below hbd)
      have HW := Lib.hid (HW.out.below hbd)
      have T := Lib.hid (T.out.trans (hbd.mono T.out.size))
      clear hbd
      obtain ⟨m, rfl⟩ := Int.eq_ofNat_of_zero_le hok.2.1.1
      have OK := Lib.hid hok
      have AP := Lib.hid (app_facts hok)
      obtain ⟨G, hG⟩ : ∃ G, jaF F m ks key val = G := ⟨_, rfl⟩
      rw [hG] at HO AP
      clear hok hG HW
      obtain ⟨ak, nk, capk, rfl, hnk, kk1, kk2⟩ := rds_len HK.out
      have hnk3 : nk = 3 := hnk.trans AP.out.k3
      clear hnk
      subst hnk3
      unfold maxLen at kk2
      obtain ⟨a0, m0, cap0, rfl, hm0, q1, q2⟩ := HV.out.len
      have hm3 : m0 = 3 := hm0.trans AP.out.jv.1
      clear hm0
      subst hm3
      unfold maxLen at q2
      obtain ⟨ao, mo, co, rfl, hmo, p1, p2⟩ := HO.out.rd.len
      have hmo3 : mo = 3 := hmo.trans AP.out.grw.2.1.1
      clear hmo
      subst hmo3
      unfold maxLen at p2
      have hm3 := AP.out.hm
      have hm3' : (m : Int) < 3 := by omega
      have h8 := AP.out.h8
      obtain ⟨L, hL⟩ : ∃ L, ln F m = L := ⟨_, rfl⟩
      obtain ⟨N, hN⟩ : ∃ N, N = L + 1 := ⟨_, rfl⟩
      have HLG : Hid (ln G m = N) := by show _ = _; rw [AP.out.ln, if_pos rfl, hL, hN]
      have HNEW : Hid (ent G m L = (newc F m (kf F m ks), key, val)) := by rw [← hL]; exact AP.out.new
      rw [hL] at h8
      have HL := Lib.hid hL
      have HN := Lib.hid hN
      have hNL : L < N := by omega
      have hN9 : N ≤ 9 := by omega
      clear hL hN
      obtain ⟨bO, oO, cO, bR, oR, cR, aN, cN, ev, -, -, r0, rl, rc, e0', e1', e2', hrn⟩ := HO.out.rd.entry (j := m) (i := L) (by rw [AP.out.grw.2.1.1]; exact hm3) (by rw [HLG.out]; exact hNL)
      rw [AP.out.grw.2.1.1] at ev
      simp only [Value.slice.injEq] at ev
      obtain ⟨rfl, -, rfl⟩ := ev
      rw [HLG.out] at r0 rl
      rw [HNEW.out] at e0' e1' e2' hrn
      have hnl : (newc F m (kf F m ks)).length = 3 := rfl
      simp only [hnl] at e0' e1' e2' hrn
      unfold maxLen at rc
      have HRN := Lib.hid hrn
      have hw1 : IntKind.i64.wrap ((N : Int) - 1) = (L : Int) := by rw [IntKind.wrap_i64]; have := HN.out; omega
      have hNL' : (L : Int) < (N : Int) := by omega
      obtain ⟨we, hwe⟩ : ∃ we, we = w4.alloc (.cells #[.slice aN 3 cN, .int .i64 key, .int .i64 val] 32) := ⟨_, rfl⟩
      have hbe : Below w4.heap.size w4 we := by rw [hwe]; (repeat' (first | exact Below.refl _ _ | assumption | refine Below.drew ?_ | refine below_drewN ?_ _ | refine Below.alloc ?_ (by omega) _ | refine Below.alloc ?_ (by simp; omega) _ | refine Below.alloc ?_ (by simp) _ | refine Below.setCell ?_ (by omega) _ | refine Below.setCell ?_ (by simp; omega) _ | refine Below.setCell ?_ (by simp) _))
      have E0 : Hid (we.cell? ⟨w4.heap.size, 0, none⟩ = some (.slice aN 3 cN)) := by show _ = _; rw [hwe]; simp
      have E1 : Hid (we.cell? ⟨w4.heap.size, 1, none⟩ = some (.int .i64 key)) := by show _ = _; rw [hwe]; simp
      have E2 : Hid (we.cell? ⟨w4.heap.size, 2, none⟩ = some (.int .i64 val)) := by show _ = _; rw [hwe]; simp
      have HWE := Lib.hid hwe
      clear hrn hwe hnl
      have HV := Lib.hid (HV.out.below hbe)
      have HK := Lib.hid (HK.out.below hbe)
      have HO := Lib.hid (HO.out.below hbe)
      have HRN := Lib.hid (HRN.out.below hbe)
      have T := Lib.hid (T.out.trans (hbe.mono T.out.size))
      clear hbe
      go_wp2
      rw [← HWE.out]
      go_loopw [14] (fun v' wr => ∃ v : Nat, v ≤ 3 ∧ v' = .int .i64 v ∧ Hid (Below we.heap.size we wr)) (fun v' _ => 3 - (intOf v').toNat)
      case atStart => exact ⟨0, Nat.zero_le _, rfl, Below.refl _ _⟩
      case round =>
        clear r0 e0' e1' e2'
        obtain ⟨v, hv, rfl, HBv⟩ := hrel
        by_cases hlt : v < 3
        · have hlt' : (v : Int) < 3 := by omega
          have HD : Hid (∀ n, Below we.heap.size we (wr.drewN n)) := fun n => by have := HBv.out; (repeat' (first | exact Below.refl _ _ | assumption | refine Below.drew ?_ | refine below_drewN ?_ _ | refine Below.alloc ?_ (by omega) _ | refine Below.alloc ?_ (by simp; omega) _ | refine Below.alloc ?_ (by simp) _ | refine Below.setCell ?_ (by omega) _ | refine Below.setCell ?_ (by simp; omega) _ | refine Below.setCell ?_ (by simp) _))
          have x0 := cell_keep HBv.out E0.out
          obtain ⟨bk, ok', ck', kz, ev, -, -, kc, HKZ⟩ := (HK.out.below HBv.out).num2 rfl (show v < ks.length by rw [AP.out.k3]; exact hlt)
          simp only [Value.slice.injEq] at ev
          obtain ⟨rfl, -, rfl⟩ := ev
          obtain ⟨b9, o9, c9, y, ev, -, m9, d3, HYY⟩ := (HRN.out.below HBv.out).num2 (show (newc F m (kf F m ks)).length = 3 from rfl) hlt
          simp only [Value.slice.injEq] at ev
          obtain ⟨rfl, -, rfl⟩ := ev
          unfold maxLen at m9
          have hyv : y = if v = m then (L : Int) + 1 else nw F (kf F m ks) v := by have := HYY.out; rw [newc_at _ _ hlt, HL.out] at this; exact this.symm
          have hk1 : v ≠ m → kz ≤ y := fun hne => by
            rw [hyv, if_neg hne]
            have h1 := nw_ge F (kf F m ks) v
            have h2 : kf F m ks v = kz := by unfold kf upd1; rw [if_neg hne]; exact HKZ.out
            omega
          by_cases hL0 : L = 0
          · subst hL0
            obtain rfl : N = 1 := HN.out
            by_cases hvm : v = m
            · have hvm' : ((v : Int) != (m : Int)) = false := by rw [bne_eq_false_iff_eq]; omega
              clear hyv hk1 hvm
              go_wp2
              refine wp_region_quiet_lit (by kernel_rfl) (by kernel_rfl) ?_
              repeat (go_big_quiet_step (fail))
              refine wpQuiet_nil ?_
              intro _ hw'
              obtain ⟨nq, hw''⟩ := hw'
              subst hw''
              go_wp2
              go_roundw
              case rel => first | exact ⟨v + 1, by omega, by go_num, HD.out _⟩ | exact ⟨_, v + 1, by omega, by go_num, HD.out _⟩ | ((repeat apply Exists.intro); exact ⟨⟨v + 1, by omega, by go_num, HD.out _⟩, rfl⟩)
              case measure => simp [intOf]; omega
            · have hvm' : ((v : Int) != (m : Int)) = true := by rw [bne_iff_ne]; omega
              have hky := hk1 hvm
              have hky' : decide (y < kz) = false := by simp; omega
              clear hyv hk1 hvm
              go_wp2
              refine wp_region_quiet_lit (by kernel_rfl) (by kernel_rfl) ?_
              repeat (go_big_quiet_step (fail))
              refine wpQuiet_nil ?_
              intro _ hw'
              obtain ⟨nq, hw''⟩ := hw'
              subst hw''
              go_wp2
              go_roundw
              case rel => first | exact ⟨v + 1, by omega, by go_num, HD.out _⟩ | exact ⟨_, v + 1, by omega, by go_num, HD.out _⟩ | ((repeat apply Exists.intro); exact ⟨⟨v + 1, by omega, by go_num, HD.out _⟩, rfl⟩)
              case measure => simp [intOf]; omega
          · obtain ⟨q, hq⟩ : ∃ q, L = q + 1 := ⟨L - 1, by omega⟩
            have hw2 : IntKind.i64.wrap ((N : Int) - 2) = (q : Int) := by rw [IntKind.wrap_i64]; have := HN.out; omega
            have hL1 : (1 : Int) < (N : Int) := by have := HN.out; omega
            have hL1' : 1 < N := by omega
            have hqN : (q : Int) < (N : Int) := by omega
            obtain ⟨b8, o8, c8, bA, oA, cA, aB, cB, ev, -, -, d1, d1n, d1m, d2, -, -, hrr⟩ := (HO.out.below HBv.out).rd.entry (j := m) (i := q) (by rw [AP.out.grw.2.1.1]; exact hm3) (by rw [HLG.out]; have := HN.out; omega)
            rw [AP.out.grw.2.1.1] at ev
            simp only [Value.slice.injEq, Option.some.injEq, Addr.mk.injEq, and_true] at ev
            obtain ⟨⟨rfl, rfl⟩, -, rfl⟩ := ev
            rw [HLG.out] at d1 d1n
            unfold maxLen at d1m
            have hLc := (AP.out.grw.2.1.2.2.1 m hm3 q (by rw [HLG.out]; have := HN.out; omega)).1
            obtain ⟨b7, o7, c7, z, ev, -, m7, d4, HZZ⟩ := hrr.num' hLc hlt
            rw [hLc] at d2 ev
            simp only [Value.slice.injEq] at ev
            obtain ⟨rfl, -, rfl⟩ := ev
            unfold maxLen at m7
            have hzy : z ≤ y := by
              have hz1 : ck G m q v = z := HZZ.out
              have hz2 : ck G m q v = ck F m q v := AP.out.grw.ck hm3 (by rw [HL.out]; omega) v
              rw [hyv, ← hz1, hz2]
              split
              · rename_i e
                rw [e, AP.out.jv.own hm3 (by rw [HL.out]; omega)]
                omega
              · have h1 := nw_in F (kf F m ks) hm3 v (by rw [kf_own, HL.out]; omega)
                have h2 : (kf F m ks m - 1).toNat = q := by rw [kf_own, HL.out]; omega
                rw [h2] at h1
                exact h1
            have hzy' : decide (y < z) = false := by simp; omega
            clear hrr hLc hyv hq hL0
            by_cases hvm : v = m
            · have hvm' : ((v : Int) != (m : Int)) = false := by rw [bne_eq_false_iff_eq]; omega
              clear hk1 hvm
              go_wp2
              refine wp_region_quiet_lit (by kernel_rfl) (by kernel_rfl) ?_
              repeat (go_big_quiet_step (fail))
              refine wpQuiet_nil ?_
              intro _ hw'
              obtain ⟨nq, hw''⟩ := hw'
              subst hw''
              go_wp2
              go_roundw
              case rel => first | exact ⟨v + 1, by omega, by go_num, HD.out _⟩ | exact ⟨_, v + 1, by omega, by go_num, HD.out _⟩ | ((repeat apply Exists.intro); exact ⟨⟨v + 1, by omega, by go_num, HD.out _⟩, rfl⟩)
              case measure => simp [intOf]; omega
            · have hvm' : ((v : Int) != (m : Int)) = true := by rw [bne_iff_ne]; omega
              have hky := hk1 hvm
              have hky' : decide (y < kz) = false := by simp; omega
              clear hk1 hvm
              go_wp2
              refine wp_region_quiet_lit (by kernel_rfl) (by kernel_rfl) ?_
              repeat (go_big_quiet_step (fail))
              refine wpQuiet_nil ?_
              intro _ hw'
              obtain ⟨nq, hw''⟩ := hw'
              subst hw''
              go_wp2
              go_roundw
              case rel => first | exact ⟨v + 1, by omega, by go_num, HD.out _⟩ | exact ⟨_, v + 1, by omega, by go_num, HD.out _⟩ | ((repeat apply Exists.intro); exact ⟨⟨v + 1, by omega, by go_num, HD.out _⟩, rfl⟩)
              case measure => simp [intOf]; omega
        · have HTr := Lib.hid (T.out.trans (HBv.out.mono T.out.size))
          by_cases hL0 : L = 0
          · subst hL0
            obtain rfl : N = 1 := HN.out
            go_wp2
            go_ret
            exact ⟨rfl, HTr.out⟩
          · obtain ⟨q, hq⟩ : ∃ q, L = q + 1 := ⟨L - 1, by omega⟩
            have hw2 : IntKind.i64.wrap ((N : Int) - 2) = (q : Int) := by rw [IntKind.wrap_i64]; have := HN.out; omega
            have hL1 : ((N : Int) == 1) = false := by rw [beq_eq_false_iff_ne]; omega
            have hJS : Hid (jsB G m L m q = true) := jsB_t (js_mk AP.out.grw.2.1 hm3 (by rw [HLG.out]; omega) hm3 (by rw [HLG.out]; omega) (fun e => by have := e.2; omega) (by rw [AP.out.grw.2.1.own hm3 (show L < ln G m by rw [HLG.out]; exact hNL)]; omega))
            clear hq
            go_wp2_with fail
            refine (joinSees_c G _ m L m q _ (HO.out.below HBv.out).rd).mono ?_
            rintro e w11 ⟨rfl, hbd⟩
            rw [hJS.out]
            have HB11 := Lib.hid (HTr.out.trans (hbd.mono HTr.out.size))
            clear hbd
            go_wp2
            go_ret
            exact ⟨rfl, HB11.out⟩
    · rw [jaB_f hok]
      clear hok
      go_wp2_with fail
      refine (sameEntries_c _ _ _ _ HO.out.rd HW.out.rd).mono ?_
      rintro e w4 ⟨rfl, hbd⟩
      have HV := Lib.hid (HV.out.below hbd)
      have HK := Lib.hid (HK.out.below hbd)
      have HO := Lib.hid (HO.out.below hbd)
      have HW := Lib.hid (HW.out.below hbd)
      have T := Lib.hid (T.out.trans (hbd.mono T.out.size))
      clear hbd
      go_wp2_with fail
      refine (sameEntries_c _ _ _ _ HO.out.rd HW.out.rd).mono ?_
      rintro e w5 ⟨rfl, hbd⟩
      have HV := Lib.hid (HV.out.below hbd)
      have HK := Lib.hid (HK.out.below hbd)
      have HO := Lib.hid (HO.out.below hbd)
      have HW := Lib.hid (HW.out.below hbd)
      have T := Lib.hid (T.out.trans (hbd.mono T.out.size))
      clear hbd
      go_wp2
      go_ret
      exact ⟨rfl, T.out⟩
end Go.Proofs.Ythnepmhkeceadaa
