/- The walks of the laws on ViewKept. -/
import Derived.Test.YtedcolbbbohbaaaJwY
import Derived.Test.YtedcolbbbohbaaaJwX
namespace Go.Proofs.Ytedcolbbbohbaaa
open Go.RowKit
attribute [local go_sem ↓] Go.wp_at_zero Go.wp_at_succ
theorem cpl_ge (a b : List P2) (n : Nat) (d : P2) (h1 : n ≤ a.length) (h2 : n ≤ b.length) (h : ∀ j, j < n → a.getD j d = b.getD j d) : n ≤ cpl a b := by
  refine Nat.le_of_not_lt fun hlt => ?_
  rcases cpl_stop a b d with e | e | e
  · omega
  · omega
  · exact e (h _ hlt)
theorem stv_cpl {F G : Fd} (h : Grw F G) : stv F ≤ cpl (jo F) (jo G) := by
  have h1 := stv_le F
  have h2 := h.tot
  refine cpl_ge _ _ _ (0, 0) (by rw [jo_len h.1]; exact h1) (by rw [jo_len h.2.1]; omega) fun j hj => ?_
  have := kept h j hj
  rw [jo_t h.1, jo_t h.2.1, ordN_at F (by omega), ordN_at G (by omega), this]
noncomputable def cplB (F G : Fd) (N : Nat) : Bool := decide (cpl (jo F) (jo G) = N)
set_option maxHeartbeats 1600000 in
theorem sameRefs_cpl {F G : Fd} {a b : Option Addr} {N M ca cb : Nat} (w : World) (ha : Ord F w a N ca) (hb : Ord G w b M cb) (hF : JV F) (hG : JV G) (hNM : N ≤ M) :
    Calls Try.prog 22 #[.slice a N ca, .slice b N cb] w (RetB2 (cplB F G N) w) := by
  have HA := Lib.hid ha
  have HB := Lib.hid hb
  have HF := Lib.hid hF
  have HG := Lib.hid hG
  have hN1 : N ≤ ca ∧ ca ≤ maxLen := by
    obtain ⟨-, -, a', cap', e, h1, h2, -⟩ := ha
    simp only [Value.slice.injEq, true_and] at e
    obtain ⟨-, rfl⟩ := e
    exact ⟨h1, h2⟩
  have hN2 : M ≤ cb ∧ cb ≤ maxLen := by
    obtain ⟨-, -, a', cap', e, h1, h2, -⟩ := hb
    simp only [Value.slice.injEq, true_and] at e
    obtain ⟨-, rfl⟩ := e
    exact ⟨h1, h2⟩
  obtain ⟨hN1, hN3⟩ := hN1
  obtain ⟨hN2, hN4⟩ := hN2
  unfold maxLen at hN3 hN4
  obtain ⟨z, hz⟩ : ∃ z, cplB F G N = z := ⟨_, rfl⟩
  rw [hz]
  have HZ := Lib.hid hz
  clear ha hb hF hG hz
  go_enter Try.func22, Try.ntmps22
  go_wp2
  go_loopw [5] (fun n' wr => ∃ n : Nat, n ≤ N ∧ n' = .int .i64 n ∧ Hid (Below w.heap.size w wr) ∧ Hid (∀ j, j < n → (jo F).getD j (0, 0) = (jo G).getD j (0, 0))) (fun n' _ => N - (intOf n').toNat)
  case atStart => exact ⟨0, Nat.zero_le _, rfl, Below.refl _ _, fun j hj => absurd hj (Nat.not_lt_zero _)⟩
  case round =>
    obtain ⟨n, hn, rfl, HBr, HE⟩ := hrel
    have HD : Hid (∀ n, Below w.heap.size w (wr.drewN n)) := fun n => by have := HBr.out; (repeat' (first | exact Below.refl _ _ | assumption | refine Below.drew ?_ | refine below_drewN ?_ _ | refine Below.alloc ?_ (by omega) _ | refine Below.alloc ?_ (by simp; omega) _ | refine Below.alloc ?_ (by simp) _ | refine Below.setCell ?_ (by omega) _ | refine Below.setCell ?_ (by simp; omega) _ | refine Below.setCell ?_ (by simp) _))
    by_cases hlt : n < N
    · have hlt' : (n : Int) < (N : Int) := by omega
      obtain ⟨g, o, x, y, rfl, d1, d2, HX, x3, yL⟩ := (HA.out.below HBr.out).at HF.out (k := n) hlt
      obtain ⟨g', o', x', y', rfl, e1, e2, HX', x3', yL'⟩ := (HB.out.below HBr.out).at HG.out (k := n) (by omega)
      have hA : Hid ((jo F).getD n (0, 0) = ((x : Int), (y : Int))) := by show _ = _; rw [jo_at HF.out (by rw [← HA.out.tot HF.out]; exact hlt), HX.out.1, HX.out.2]
      have hB : Hid ((jo G).getD n (0, 0) = ((x' : Int), (y' : Int))) := by show _ = _; rw [jo_at HG.out (by rw [← HB.out.tot HG.out]; omega), HX'.out.1, HX'.out.2]
      by_cases hxy : x = x' ∧ y = y'
      · obtain ⟨rfl, rfl⟩ := hxy
        have HE' : Hid (∀ j, j < n + 1 → (jo F).getD j (0, 0) = (jo G).getD j (0, 0)) := fun j hj => by
          by_cases e : j = n
          · subst e; rw [hA.out, hB.out]
          · exact HE.out j (by omega)
        go_wp2
        go_quiet (fail)
        go_wp2
        go_roundw
        case rel => exact ⟨n + 1, by omega, by go_num, HD.out _, HE'⟩
        case measure => simp [intOf]; omega
      · have hZ' : Hid (false = z) := by
          show _ = _
          rw [← HZ.out]
          unfold cplB
          rw [cpl_eq (jo F) (jo G) n (0, 0) (by rw [← HA.out.1]; omega) (by rw [← HB.out.1]; omega) HE.out (.inr (.inr (by
            rw [hA.out, hB.out]
            intro e
            simp only [Prod.mk.injEq] at e
            exact hxy ⟨by omega, by omega⟩)))]
          symm; simp; omega
        have hc : ((x : Int) == (x' : Int)) = false ∨ (((x : Int) == (x' : Int)) = true ∧ ((y : Int) == (y' : Int)) = false) := by
          rw [beq_eq_false_iff_ne, beq_eq_false_iff_ne, beq_iff_eq]
          by_cases e : x = x'
          · exact .inr ⟨by omega, fun h => hxy ⟨e, by omega⟩⟩
          · exact .inl (by omega)
        have hc' : ((x : Int) != (x' : Int)) = true ∨ (((x : Int) != (x' : Int)) = false ∧ ((y : Int) != (y' : Int)) = true) := by
          rw [bne_iff_ne, bne_iff_ne, bne_eq_false_iff_eq]
          by_cases e : x = x'
          · exact .inr ⟨by omega, fun h => hxy ⟨e, by omega⟩⟩
          · exact .inl (by omega)
        clear hxy hc'
        rcases hc with heq | ⟨heq, heq2⟩
        all_goals
          go_wp2
          go_quiet (fail)
          go_wp2
          go_ret
          exact RetB2.of hZ'.out (HD.out _)
    · obtain rfl : n = N := by omega
      have hZ' : Hid (true = z) := by
        show _ = _
        rw [← HZ.out]
        unfold cplB
        rw [cpl_eq (jo F) (jo G) n (0, 0) (by rw [← HA.out.1]; exact Nat.le_refl _) (by rw [← HB.out.1]; omega) HE.out (.inl HA.out.1)]
        simp
      go_wp2
      go_ret
      exact RetB2.of hZ'.out HBr.out
set_option maxRecDepth 100000 in
set_option maxHeartbeats 6400000 in
theorem lawFnViewKeptStable_c (w : World) (v : Value) (n : Nat) (h : RdB w v n) : Calls Try.prog 11 #[v] w fun e w' => e = .returned (.bool true) ∧ Below w.heap.size w w' := by
  have hB := h
  obtain ⟨a, cap, rfl, h1, h2, -⟩ := h
  unfold maxLen at h2
  by_cases hn : 1048576 < n
  · go_enter Try.func11, Try.ntmps11
    go_wp2
    go_ret
    exact ⟨rfl, Below.refl _ _⟩
  · go_enter Try.func11, Try.ntmps11
    go_wp2_with fail
    refine (drawViewKept_c _ n _ hB).mono ?_
    rintro e w1 ⟨v, F, u, G, rfl, hF, hG, hbd⟩
    have HV := Lib.hid hF
    have HU := Lib.hid hG
    have T := Lib.hid hbd
    clear hF hG hbd
    go_wp2_with fail
    refine (viewKept_c F G _ _ _ HV.out HU.out).mono ?_
    rintro e w2 ⟨rfl, hbd⟩
    have HV := Lib.hid (HV.out.below hbd)
    have HU := Lib.hid (HU.out.below hbd)
    have T := Lib.hid (T.out.trans (hbd.mono T.out.size))
    clear hbd
    go_wp2_with fail
    refine (specViewKept_c F G _ _ _ HV.out HU.out).mono ?_
    rintro e w3 ⟨rfl, hbd⟩
    have HV := Lib.hid (HV.out.below hbd)
    have HU := Lib.hid (HU.out.below hbd)
    have T := Lib.hid (T.out.trans (hbd.mono T.out.size))
    clear hbd
    by_cases hg : Grw F G
    · rw [vkv_t hg]
      have GR := Lib.hid hg
      obtain ⟨c, hc⟩ : ∃ c, cpl (jo F) (jo G) = c := ⟨_, rfl⟩
      have hle := cpl_le (jo F) (jo G)
      have hjl := jo_len hg.1
      have ht := tot_le hg.1
      rw [hc] at hle ⊢
      have hc24 : c ≤ 24 := by omega
      have HC := Lib.hid hc
      clear hg hc hle hjl ht
      go_wp2_with fail
      refine (joinStable_c F _ _ HV.out).mono ?_
      rintro e w4 ⟨rfl, hbd⟩
      have HV := Lib.hid (HV.out.below hbd)
      have HU := Lib.hid (HU.out.below hbd)
      have T := Lib.hid (T.out.trans (hbd.mono T.out.size))
      clear hbd
      obtain ⟨s, hs⟩ : ∃ s, stv F = s := ⟨_, rfl⟩
      have hle : s ≤ c := by rw [← hs, ← HC.out]; exact stv_cpl GR.out
      have hle' : (s : Int) ≤ (c : Int) := by omega
      rw [jsv_t GR.out.1, hs]
      clear hs
      go_wp2
      go_ret
      exact ⟨by first | rfl | (simp; omega), T.out⟩
    · rw [vkv_f hg]
      clear hg
      go_wp2
      go_ret
      exact ⟨rfl, T.out⟩
set_option maxRecDepth 100000 in
set_option maxHeartbeats 6400000 in
theorem lawFnViewKeptMost_c (w : World) (v : Value) (n : Nat) (h : RdB w v n) : Calls Try.prog 10 #[v] w fun e w' => e = .returned (.bool true) ∧ Below w.heap.size w w' := by
  have hB := h
  obtain ⟨a, cap, rfl, h1, h2, -⟩ := h
  unfold maxLen at h2
  by_cases hn : 1048576 < n
  · go_enter Try.func10, Try.ntmps10
    go_wp2
    go_ret
    exact ⟨rfl, Below.refl _ _⟩
  · go_enter Try.func10, Try.ntmps10
    go_wp2_with fail
    refine (drawViewKept_c _ n _ hB).mono ?_
    rintro e w1 ⟨v, F, u, G, rfl, hF, hG, hbd⟩
    have HV := Lib.hid hF
    have HU := Lib.hid hG
    have T := Lib.hid hbd
    clear hF hG hbd
    go_wp2_with fail
    refine (viewKept_c F G _ _ _ HV.out HU.out).mono ?_
    rintro e w2 ⟨rfl, hbd⟩
    have HV := Lib.hid (HV.out.below hbd)
    have HU := Lib.hid (HU.out.below hbd)
    have T := Lib.hid (T.out.trans (hbd.mono T.out.size))
    clear hbd
    go_wp2_with fail
    refine (specViewKept_c F G _ _ _ HV.out HU.out).mono ?_
    rintro e w3 ⟨rfl, hbd⟩
    have HV := Lib.hid (HV.out.below hbd)
    have HU := Lib.hid (HU.out.below hbd)
    have T := Lib.hid (T.out.trans (hbd.mono T.out.size))
    clear hbd
    by_cases hg : Grw F G
    · rw [vkv_t hg]
      have GR := Lib.hid hg
      obtain ⟨c, hc⟩ : ∃ c, cpl (jo F) (jo G) = c := ⟨_, rfl⟩
      have hle := cpl_le (jo F) (jo G)
      have hjl := jo_len hg.1
      have ht := tot_le hg.1
      rw [hc] at hle ⊢
      have hc24 : c ≤ 24 := by omega
      have HC := Lib.hid hc
      clear hg hc hle hjl ht
      go_wp2_with fail
      refine (joinOrder_o F _ _ HV.out).mono ?_
      rintro e w4 ⟨ao, ON, Oc, rfl, Ob, O1, O2, hO, hbd⟩
      unfold maxLen at O2
      have HV := Lib.hid (HV.out.below hbd)
      have HU := Lib.hid (HU.out.below hbd)
      have T := Lib.hid (T.out.trans (hbd.mono T.out.size))
      clear hbd
      have HO := Lib.hid hO
      clear hO
      go_wp2_with fail
      refine (joinOrder_o G _ _ HU.out).mono ?_
      rintro e w5 ⟨ap, PN, Pc, rfl, Pb, P1, P2, hP, hbd⟩
      unfold maxLen at P2
      have HV := Lib.hid (HV.out.below hbd)
      have HU := Lib.hid (HU.out.below hbd)
      have HO := Lib.hid (HO.out.below hbd)
      have T := Lib.hid (T.out.trans (hbd.mono T.out.size))
      clear hbd
      have HP := Lib.hid hP
      clear hP
      have hNP : ON ≤ PN := by rw [HO.out.1, HP.out.1]; exact jo_len_le GR.out
      have hNc : ON ≤ Pc := by omega
      have hcO : c ≤ ON := by rw [HO.out.1, ← HC.out]; exact (cpl_le _ _).1
      have hcO' : (c : Int) ≤ (ON : Int) := by omega
      by_cases he : c = ON
      · have hE : Hid (cplB F G ON = true) := by show _ = _; unfold cplB; simp [HC.out, he]
        subst he
        go_wp2_with fail
        refine (sameRefs_cpl _ HO.out HP.out GR.out.1 GR.out.2.1 hNP).mono ?_
        rintro e w6 ⟨rfl, hbd⟩
        rw [hE.out]
        have HV := Lib.hid (HV.out.below hbd)
        have HU := Lib.hid (HU.out.below hbd)
        have HO := Lib.hid (HO.out.below hbd)
        have HP := Lib.hid (HP.out.below hbd)
        have T := Lib.hid (T.out.trans (hbd.mono T.out.size))
        clear hbd
        go_wp2
        go_ret
        exact ⟨rfl, T.out⟩
      · have hE : Hid (cplB F G ON = false) := by show _ = _; unfold cplB; simp [HC.out, he]
        have he' : ((c : Int) == (ON : Int)) = false := by rw [beq_eq_false_iff_ne]; omega
        clear he
        go_wp2_with fail
        refine (sameRefs_cpl _ HO.out HP.out GR.out.1 GR.out.2.1 hNP).mono ?_
        rintro e w6 ⟨rfl, hbd⟩
        rw [hE.out]
        have HV := Lib.hid (HV.out.below hbd)
        have HU := Lib.hid (HU.out.below hbd)
        have HO := Lib.hid (HO.out.below hbd)
        have HP := Lib.hid (HP.out.below hbd)
        have T := Lib.hid (T.out.trans (hbd.mono T.out.size))
        clear hbd
        go_wp2
        go_ret
        exact ⟨rfl, T.out⟩
    · rw [vkv_f hg]
      clear hg
      go_wp2
      go_ret
      exact ⟨rfl, T.out⟩
set_option maxRecDepth 100000 in
set_option maxHeartbeats 6400000 in
theorem lawFnViewKeptSame_c (w : World) (v : Value) (n : Nat) (h : RdB w v n) : Calls Try.prog 4 #[v] w fun e w' => e = .returned (.bool true) ∧ Below w.heap.size w w' := by
  have hB := h
  obtain ⟨a, cap, rfl, h1, h2, -⟩ := h
  unfold maxLen at h2
  by_cases hn : 1048576 < n
  · go_enter Try.func4, Try.ntmps4
    go_wp2
    go_ret
    exact ⟨rfl, Below.refl _ _⟩
  · go_enter Try.func4, Try.ntmps4
    go_wp2_with fail
    refine (drawJoinOrder_c _ n _ hB).mono ?_
    rintro e w1 ⟨v, F, rfl, hF, hbd⟩
    have HV := Lib.hid hF
    have T := Lib.hid hbd
    clear hF hbd
    go_wp2_with fail
    refine (joinOrder_o F _ _ HV.out).mono ?_
    rintro e w2 ⟨ao, ON, Oc, rfl, Ob, O1, O2, hO, hbd⟩
    unfold maxLen at O2
    have HV := Lib.hid (HV.out.below hbd)
    have T := Lib.hid (T.out.trans (hbd.mono T.out.size))
    clear hbd
    have HO := Lib.hid hO
    clear hO
    go_wp2_with fail
    refine (specJoinOrder_o F _ _ HV.out).mono ?_
    rintro e w3 ⟨aw, WN, Wc, rfl, Wb, W1, W2, hW, hbd⟩
    unfold maxLen at W2
    have HV := Lib.hid (HV.out.below hbd)
    have HO := Lib.hid (HO.out.below hbd)
    have T := Lib.hid (T.out.trans (hbd.mono T.out.size))
    clear hbd
    have HW := Lib.hid hW
    clear hW
    go_wp2_with fail
    refine (sameRefs_o _ HO.out HW.out).mono ?_
    rintro e w4 ⟨rfl, hbd⟩
    have HV := Lib.hid (HV.out.below hbd)
    have HO := Lib.hid (HO.out.below hbd)
    have HW := Lib.hid (HW.out.below hbd)
    have T := Lib.hid (T.out.trans (hbd.mono T.out.size))
    clear hbd
    go_wp2_with fail
    refine (specJoinValid_c F _ _ HV.out).mono ?_
    rintro e w5 ⟨rfl, hbd⟩
    have HV := Lib.hid (HV.out.below hbd)
    have HO := Lib.hid (HO.out.below hbd)
    have HW := Lib.hid (HW.out.below hbd)
    have T := Lib.hid (T.out.trans (hbd.mono T.out.size))
    clear hbd
    by_cases hj : JV F
    · rw [jvB_t hj]
      have HJ := Lib.hid hj
      have hN := Lib.hid (HO.out.tot hj)
      clear hj
      go_wp2_with fail
      refine (viewKept_c F F _ _ _ HV.out HV.out).mono ?_
      rintro e w6 ⟨rfl, hbd⟩
      have HV := Lib.hid (HV.out.below hbd)
      have HO := Lib.hid (HO.out.below hbd)
      have HW := Lib.hid (HW.out.below hbd)
      have T := Lib.hid (T.out.trans (hbd.mono T.out.size))
      clear hbd
      have hself : Hid (vkv F F = (ON : Int)) := by
        show _ = _
        rw [vkv_t ⟨HJ.out, HJ.out, fun _ _ => ⟨Nat.le_refl _, fun _ _ => rfl⟩⟩, cpl_eq (jo F) (jo F) ON (0, 0) (by rw [← HO.out.1]; exact Nat.le_refl _) (by rw [← HO.out.1]; exact Nat.le_refl _) (fun _ _ => rfl) (.inl HO.out.1)]
      rw [hself.out]
      go_wp2
      go_ret
      exact ⟨rfl, T.out⟩
    · rw [jvB_f hj]
      clear hj
      go_wp2_with fail
      refine (sameRefs_o _ HO.out HW.out).mono ?_
      rintro e w6 ⟨rfl, hbd⟩
      have HV := Lib.hid (HV.out.below hbd)
      have HO := Lib.hid (HO.out.below hbd)
      have HW := Lib.hid (HW.out.below hbd)
      have T := Lib.hid (T.out.trans (hbd.mono T.out.size))
      clear hbd
      go_wp2
      go_ret
      exact ⟨rfl, T.out⟩
end Go.Proofs.Ytedcolbbbohbaaa
