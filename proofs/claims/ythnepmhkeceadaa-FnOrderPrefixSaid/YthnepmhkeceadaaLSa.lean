/- The law on what is stable once all have seen it: plain law and walk. -/
import Derived.Test.YthnepmhkeceadaaLoP
import Derived.Test.YthnepmhkeceadaaJwS
import Derived.Test.YthnepmhkeceadaaJwT
import Derived.Test.YthnepmhkeceadaaJwP
import Derived.Test.YthnepmhkeceadaaJwJ
namespace Go.Proofs.Ythnepmhkeceadaa
open Go.RowKit
attribute [local go_sem ↓] Go.wp_at_zero Go.wp_at_succ
/-- all that there is, as an argument of JoinAppend -/
def all3 (F : Fd) : List Int := [(ln F 0 : Int), (ln F 1 : Int), (ln F 2 : Int)]
theorem all3_at (F : Fd) {v : Nat} (hv : v < 3) : (all3 F).getD v 0 = (ln F v : Int) := by
  have : v = 0 ∨ v = 1 ∨ v = 2 := by omega
  rcases this with rfl | rfl | rfl <;> rfl
theorem all3_knw (F : Fd) (w : Nat) : Knw F (kf F w (all3 F)) := kf_knw (fun v hv => by rw [all3_at F hv]; omega)
theorem new_all {F : Fd} (h : JV F) {w v : Nat} (hv : v < 3) : (newc F w (kf F w (all3 F))).getD v 0 = if v = w then (ln F w : Int) + 1 else (ln F v : Int) := by
  rw [newc_at _ _ hv]
  by_cases e : v = w
  · rw [if_pos e, if_pos e]
  · rw [if_neg e, if_neg e]
    have h1 := nw_ge F (kf F w (all3 F)) v
    have h2 := (nw_rng h (all3_knw F w) hv).2
    have h3 : kf F w (all3 F) v = (ln F v : Int) := by unfold kf upd1; rw [if_neg e]; exact all3_at F hv
    omega
theorem all_args {X : Fd} (h : JV X) {w : Nat} (hw : w < 3) (h8 : ln X w < 8) : AppArgs X (w : Int) (all3 X) 0 0 :=
  ⟨h, by omega, rfl, by omega, by omega, by simpa using h8, fun v hv => by rw [all3_at X hv]; omega⟩
theorem all_args8 {X : Fd} {w : Nat} (h8 : ¬ ln X w < 8) : ¬ AppArgs X (w : Int) (all3 X) 0 0 := fun h => h8 (by have := h.2.2.2.2.2.1; simpa using this)
/-- X: F, to which the writers before w have appended entries that see all -/
structure Sn (F X : Fd) (w : Nat) : Prop where
  jv : JV X
  rf : ∀ k, k < tot F → Proofs.Ythnepmhkeceadaa.rf X k = Proofs.Ythnepmhkeceadaa.rf F k
  tt : tot F ≤ tot X
  le : ∀ v, v < 3 → ln F v ≤ ln X v
  see : ∀ v, v < w → v < 3 → 0 < ln X v ∧ ∀ u, u < 3 → ∀ i, i < ln F u → v = u ∨ (i : Int) < ck X v (ln X v - 1) u
theorem Sn.start {F : Fd} (h : JV F) : Sn F F 0 := ⟨h, fun _ _ => rfl, Nat.le_refl _, fun _ _ => Nat.le_refl _, fun _ h => absurd h (Nat.not_lt_zero _)⟩
theorem Sn.step {F X : Fd} {w : Nat} (h : Sn F X w) (hw : w < 3) (ha : AppArgs X (w : Int) (all3 X) 0 0) : Sn F (jaF X w (all3 X) 0 0) (w + 1) := by
  have h8 : ln X w < 8 := by have := ha.2.2.2.2.2.1; simpa using this
  have hok : AppOk X w (newc X w (kf X w (all3 X)), 0, 0) := newc_ok h.jv hw (all3_knw X w) (kf_own X w (all3 X)) (by omega) (by omega)
  rw [jaF_t ha, Int.toNat_natCast]
  have hl := all_last h.jv hw h8 hok (fun v hv hne => by show (newc X w (kf X w (all3 X))).getD v 0 = _; rw [new_all h.jv hv, if_neg hne])
  have hg := Grw_app h.jv hw h8 hok
  have hwl : w < X.length := by rw [h.jv.1]; exact hw
  have hln := fun v => app_ln (e := (newc X w (kf X w (all3 X)), (0 : Int), (0 : Int))) hwl v
  refine ⟨hg.2.1, fun k hk => (hl.1 k (Nat.lt_of_lt_of_le hk h.tt)).trans (h.rf k hk), ?_, fun v hv => ?_, fun v hv hv3 => ?_⟩
  · have := h.tt; rw [tot_app h.jv.1 hw]; omega
  · have := h.le v hv; rw [hln v]; split
    · rename_i e; subst e; omega
    · exact this
  · by_cases e : v = w
    · subst e
      rw [hln v, if_pos rfl]
      refine ⟨by omega, fun u hu i hi => ?_⟩
      by_cases eu : v = u
      · exact .inl eu
      · right
        have h1 : ck (app X v (newc X v (kf X v (all3 X)), (0 : Int), (0 : Int))) v (ln X v + 1 - 1) u = (ln X u : Int) := by
          rw [Nat.add_sub_cancel]
          unfold ck
          rw [app_new hwl]
          show (newc X v (kf X v (all3 X))).getD u 0 = _
          rw [new_all h.jv hu, if_neg (fun e => eu e.symm)]
        rw [h1]
        have := h.le u hu
        omega
    · rw [hln v, if_neg e]
      obtain ⟨g1, g2⟩ := h.see v (by omega) hv3
      refine ⟨g1, fun u hu i hi => ?_⟩
      rw [hg.ck hv3 (by omega) u]
      exact g2 u hu i hi
theorem Sn.done {F X : Fd} (h : Sn F X 3) (hF : JV F) : tot F ≤ stv X := by
  by_cases h0 : tot F = 0
  · omega
  · obtain ⟨j, hj⟩ : ∃ j, tot F = j + 1 := ⟨tot F - 1, by omega⟩
    rw [hj]
    have ht := h.tt
    refine stN_ge (by omega) ?_
    have e := h.rf j (by omega)
    unfold Proofs.Ythnepmhkeceadaa.rf at e
    simp only [Prod.mk.injEq] at e
    have e1 : wk X j = wk F j := by omega
    have e2 : pst X j (wk X j) = pst F j (wk F j) := by omega
    rw [e2, e1]
    have hi : pst F j (wk F j) < ln F (wk F j) := ix_lt hF (by omega)
    intro v hv
    obtain ⟨g1, g2⟩ := h.see v hv hv
    exact ⟨g1, g2 _ (wk_lt hF (by omega)) _ hi⟩
set_option maxRecDepth 100000 in
set_option maxHeartbeats 6400000 in
theorem lawFnStableSeen_c (w : World) (v : Value) (n : Nat) (h : RdB w v n) : Calls Try.prog 9 #[v] w fun e w' => e = .returned (.bool true) ∧ Below w.heap.size w w' := by
  have hB := h
  obtain ⟨a, cap, rfl, h1, h2, -⟩ := h
  unfold maxLen at h2
  by_cases hn : 1048576 < n
  · go_enter Try.func9, Try.ntmps9
    go_wp2
    go_ret
    exact ⟨rfl, Below.refl _ _⟩
  · go_enter Try.func9, Try.ntmps9
    go_wp2_with fail
    refine (drawJoinOrder_c _ n _ hB).mono ?_
    rintro e w1 ⟨v, F, rfl, hF, hbd⟩
    have HV := Lib.hid hF
    have T := Lib.hid hbd
    clear hF hbd
    go_wp2_with fail
    refine (joinOrder_o F _ _ HV.out).mono ?_
    rintro e w2 ⟨ao, ON, Oc, rfl, Ob, O1, O2, hO, hbd⟩
    unfold maxLen at O2
    have HV := Lib.hid (HV.out.below hbd)
    have T := Lib.hid (T.out.trans (hbd.mono T.out.size))
    clear hbd
    have HO := Lib.hid hO
    clear hO
    go_wp2_with fail
    refine (specJoinOrder_o F _ _ HV.out).mono ?_
    rintro e w3 ⟨aw, WN, Wc, rfl, Wb, W1, W2, hW, hbd⟩
    unfold maxLen at W2
    have HV := Lib.hid (HV.out.below hbd)
    have HO := Lib.hid (HO.out.below hbd)
    have T := Lib.hid (T.out.trans (hbd.mono T.out.size))
    clear hbd
    have HW := Lib.hid hW
    clear hW
    go_wp2_with fail
    refine (sameRefs_o _ HO.out HW.out).mono ?_
    rintro e w4 ⟨rfl, hbd⟩
    have HV := Lib.hid (HV.out.below hbd)
    have HO := Lib.hid (HO.out.below hbd)
    have HW := Lib.hid (HW.out.below hbd)
    have T := Lib.hid (T.out.trans (hbd.mono T.out.size))
    clear hbd
    go_wp2_with fail
    refine (specJoinValid_c F _ _ HV.out).mono ?_
    rintro e w5 ⟨rfl, hbd⟩
    have HV := Lib.hid (HV.out.below hbd)
    have HO := Lib.hid (HO.out.below hbd)
    have HW := Lib.hid (HW.out.below hbd)
    have T := Lib.hid (T.out.trans (hbd.mono T.out.size))
    clear hbd
    by_cases hj : JV F
    · rw [jvB_t hj]
      have HJ := Lib.hid hj
      have hN := Lib.hid (HO.out.tot hj)
      clear hj
      clear HW
      go_wp2
      go_loopw [6, 7] (fun x' i' wr => ∃ (X : Fd) (wi : Nat), wi ≤ 3 ∧ i' = .int .i64 wi ∧ Hid (RdF All wr x' X) ∧ Hid (Sn F X wi) ∧ Hid (Below w5.heap.size w5 wr)) (fun _ i' _ => 3 - (intOf i').toNat)
      case atStart => exact ⟨F, 0, by omega, rfl, HV.out.all, Sn.start HJ.out, Below.refl _ _⟩
      case round =>
        obtain ⟨X, wi, hwi, rfl, HX, HS, HBj⟩ := hrel
        obtain ⟨wq, hwq⟩ : ∃ wq : World, wq = wr := ⟨_, rfl⟩
        obtain ⟨xa, xm, xc, rfl, hxm, p1, p2⟩ := HX.out.len
        have hx3 : xm = 3 := hxm.trans HS.out.jv.1
        clear hxm
        subst hx3
        unfold maxLen at p2
        by_cases hlt : wi < 3
        · have hlt' : (wi : Int) < 3 := by omega
          have hown0 := own_empty wr wr.heap.size 3 1 (Nat.le_refl _)
          have HB0 : Hid (Below wr.heap.size wr (wr.alloc (.cells #[] 3))) := (Below.refl _ _).alloc (Nat.le_refl _) _
          go_wp2
          go_loopw [8, 9] (fun o i' wr => ∃ v : Nat, v ≤ 3 ∧ i' = .int .i64 v ∧ wr.ownsRow wq.heap.size 3 1 o v (enc1 ((all3 X).take v)) ∧ Hid (Below wq.heap.size wq wr)) (fun _ i' _ => 3 - (intOf i').toNat)
          case atStart => exact ⟨0, Nat.zero_le _, rfl, by subst hwq; exact hown0, by subst hwq; exact HB0⟩
          case round =>
            subst hwq
            clear hown0 HB0
            obtain ⟨v, hv, rfl, hown, HBk⟩ := hrel
            have hsz := HBk.out.size
            by_cases hvt : v < 3
            · obtain ⟨b5, o5, c5, a6, c6, ev, -, -, q5, q6, q7, -⟩ := (HX.out.below HBk.out).feed (j := v) (by rw [HS.out.jv.1]; exact hvt)
              rw [HS.out.jv.1] at ev
              simp only [Value.slice.injEq] at ev
              obtain ⟨rfl, -, rfl⟩ := ev
              unfold maxLen at q7
              have hvt' : (v : Int) < 3 := by omega
              have HT : Hid ((all3 X).take (v + 1) = (all3 X).take v ++ [(ln X v : Int)]) := by
                show _ = _
                rw [take_snoc_getD (all3 X) v 0 hvt, all3_at X hvt]
              have hlen : ((all3 X).take v).length = v := by rw [List.length_take, show (all3 X).length = 3 from rfl]; omega
              have HLn := Lib.hid hlen
              obtain ⟨L, hL⟩ : ∃ L, ln X v = L := ⟨_, rfl⟩
              rw [hL] at q5 q6 HT
              obtain ⟨Y, hY⟩ : ∃ Y, (all3 X).take v = Y := ⟨_, rfl⟩
              rw [hY] at hown HT HLn
              clear hlen hY hL
              have hown' := hown
              rw [← HLn.out] at hown'
              have hY3 : Y.length ≤ 3 := by rw [HLn.out]; omega
              go_wp2_with (at_builtin; refine wpList_app1 _ rfl _ _ 24 rfl wq.heap.size 3 Try.underlying24 info_int0 _ Y rfl hown' _ _ _ rfl (by omega) hsz ?_)
              intro v' w4 qs hqs hql hown4 hg4
              have hb4 := Lib.hid (HBk.out.grown hg4 hsz (fun k hk => (hown.lt k hk).1))
              have hql2 : qs.length = v + 1 := by rw [hqs.out]; simp; exact HLn.out
              rw [hql2, hqs.out, ← HT.out] at hown4
              clear hown hown' hg4 q5 hqs hql hql2
              go_wp2
              go_roundw
              case rel => exact ⟨v + 1, by omega, by go_num, hown4, hb4⟩
              case measure => simp [intOf]; omega
            · obtain rfl : v = 3 := by omega
              rw [List.take_of_length_le (show (all3 X).length ≤ 3 from Nat.le_refl _)] at hown
              obtain ⟨ok, oc, rfl⟩ := own_slice hown
              have HK := Lib.hid hown
              have HXr := Lib.hid (HX.out.below HBk.out)
              have HBr := Lib.hid (HBj.out.trans (HBk.out.mono HBj.out.size))
              clear hown
              go_wp2_with fail
              refine (joinAppend_c X _ wi _ (all3 X) 0 0 _ HXr.out (RdS.of_own HK.out)).mono ?_
              rintro e w9 ⟨vy, rfl, hY, hbd⟩
              have HB9 := Lib.hid (HBr.out.trans (hbd.mono HBr.out.size))
              by_cases h8 : ln X wi < 8
              · have ha := all_args HS.out.jv hlt h8
                rw [jaB_t ha]
                have HS' := Lib.hid (HS.out.step hlt ha)
                have HY := Lib.hid hY.rd.all
                clear ha hY hbd h8
                go_wp2
                go_roundw
                case rel => exact ⟨_, wi + 1, by omega, by go_num, HY, HS', HB9⟩
                case measure => simp [intOf]; omega
              · rw [jaB_f (all_args8 h8)]
                have hl8 : ln X wi = 8 := by have := HS.out.jv.2.1 wi hlt; omega
                obtain ⟨b5, o5, c5, a6, c6, ev, -, -, q5, q6, q7, -⟩ := (HXr.out.below hbd).feed (j := wi) (by rw [HS.out.jv.1]; exact hlt)
                rw [HS.out.jv.1] at ev
                simp only [Value.slice.injEq] at ev
                obtain ⟨rfl, -, rfl⟩ := ev
                unfold maxLen at q7
                rw [hl8] at q5 q6
                clear hY hbd h8 hl8
                go_wp2
                go_ret
                exact ⟨rfl, T.out.trans (HB9.out.mono T.out.size)⟩
        · obtain rfl : wi = 3 := by omega
          go_wp2_with fail
          refine (joinStable_c X _ _ HX.out).mono ?_
          rintro e w9 ⟨rfl, hbd⟩
          have HB9 := Lib.hid (HBj.out.trans (hbd.mono HBj.out.size))
          rw [jsv_t HS.out.jv]
          obtain ⟨s, hs⟩ : ∃ s, stv X = s := ⟨_, rfl⟩
          have hge : ON ≤ s := by rw [← hs, hN.out]; exact HS.out.done HJ.out
          have hge' : (ON : Int) ≤ (s : Int) := by omega
          rw [hs]
          clear hs hbd
          go_wp2
          go_ret
          exact ⟨by first | rfl | (simp; omega), T.out.trans (HB9.out.mono T.out.size)⟩
    · rw [jvB_f hj]
      clear hj
      go_wp2_with fail
      refine (sameRefs_o _ HO.out HW.out).mono ?_
      rintro e w6 ⟨rfl, hbd⟩
      have HV := Lib.hid (HV.out.below hbd)
      have HO := Lib.hid (HO.out.below hbd)
      have HW := Lib.hid (HW.out.below hbd)
      have T := Lib.hid (T.out.trans (hbd.mono T.out.size))
      clear hbd
      go_wp2
      go_ret
      exact ⟨rfl, T.out⟩
end Go.Proofs.Ythnepmhkeceadaa
