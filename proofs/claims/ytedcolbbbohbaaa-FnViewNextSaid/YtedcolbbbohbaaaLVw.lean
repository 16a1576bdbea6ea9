/- The walks of the laws on views. -/
import Derived.Test.YtedcolbbbohbaaaJxB
import Derived.Test.YtedcolbbbohbaaaJxC
import Derived.Test.YtedcolbbbohbaaaView
namespace Go.Proofs.Ytedcolbbbohbaaa
open Go.RowKit
attribute [local go_sem ↓] Go.wp_at_zero Go.wp_at_succ
theorem vw_asc (F : Fd) (n j : Nat) (h : j + 1 < (vw F n).length) : ((vw F n).getD j (0, 0)).1 < ((vw F n).getD (j + 1) (0, 0)).1 := by
  have := List.pairwise_iff_getElem.1 (vwL_sorted (lastV F n) 10) j (j + 1) (by unfold vw at h; omega) (by unfold vw at h; exact h) (by omega)
  unfold vw at h ⊢
  rw [List.getD_eq_getElem?_getD, List.getD_eq_getElem?_getD, List.getElem?_eq_getElem (by omega), List.getElem?_eq_getElem h]
  exact this
/-- what ViewGet finds in a view -/
def vgO : Option Int → Int × Bool
  | some v => (v, true)
  | none => (0, false)
theorem vg_vw (F : Fd) (n : Nat) {key : Int} (h0 : 0 ≤ key) (h9 : key < 10) : vg key (vw F n) = vgO (lastV F n key) := by
  have ha : asc (vw F n) := fun j hj => vw_asc F n j (by omega)
  rw [vg_yes (fun j hj => ha j (by omega))]
  cases hl : lastV F n key with
  | some v =>
    have hm : (key, v) ∈ vw F n := (vwL_mem (lastV F n) 10 (key, v)).2 ⟨h0, h9, hl⟩
    obtain ⟨i, hi, e⟩ := List.getElem_of_mem hm
    have e' : (vw F n).getD i (0, 0) = (key, v) := by rw [List.getD_eq_getElem?_getD, List.getElem?_eq_getElem hi]; exact e
    rw [vgFold_at ha i hi (by rw [e']), e']
    rfl
  | none =>
    rw [vgFold_none]
    · rfl
    · intro i hi e
      have hm : (vw F n).getD i (0, 0) ∈ vw F n := by rw [List.getD_eq_getElem?_getD, List.getElem?_eq_getElem hi]; exact List.getElem_mem hi
      have := ((vwL_mem (lastV F n) 10 _).1 hm).2.2
      rw [e, hl] at this
      cases this
set_option maxRecDepth 100000 in
set_option maxHeartbeats 6400000 in
theorem lawFnViewEmpty_c (w : World) (v : Value) (n : Nat) (h : RdB w v n) : Calls Try.prog 5 #[v] w fun e w' => e = .returned (.bool true) ∧ Below w.heap.size w w' := by
  have hB := h
  obtain ⟨a, cap, rfl, h1, h2, -⟩ := h
  unfold maxLen at h2
  by_cases hn : 1048576 < n
  · go_enter Try.func5, Try.ntmps5
    go_wp2
    go_ret
    exact ⟨rfl, Below.refl _ _⟩
  · go_enter Try.func5, Try.ntmps5
    go_wp2_with fail
    refine (drawViewAt_c _ n _ hB).mono ?_
    rintro e w1 ⟨v, F, x, rfl, hF, hbd, hx1, hx2⟩
    have HV := Lib.hid hF
    have T := Lib.hid hbd
    clear hF hbd
    obtain ⟨R, hR⟩ : ∃ R, vaL F x = R := ⟨_, rfl⟩
    have HR := Lib.hid hR
    clear hR
    go_wp2_with fail
    refine (viewAt_c F _ x _ HV.out).mono ?_
    rintro e w2 ⟨vo, rfl, hO, hbd⟩
    have HV := Lib.hid (HV.out.below hbd)
    have T := Lib.hid (T.out.trans (hbd.mono T.out.size))
    clear hbd
    rw [HR.out] at hO
    obtain ⟨ao, co, rfl⟩ := own_slice hO
    have HO := Lib.hid hO
    clear hO
    go_wp2_with fail
    refine (specViewAt_c F _ x _ HV.out).mono ?_
    rintro e w3 ⟨vz, rfl, hW, hbd⟩
    have HV := Lib.hid (HV.out.below hbd)
    have HO := Lib.hid (own_below HO.out hbd)
    have T := Lib.hid (T.out.trans (hbd.mono T.out.size))
    clear hbd
    rw [HR.out] at hW
    have HW := Lib.hid hW
    clear hW
    by_cases hok : VaOk F x
    · rw [vaB_t hok]
      go_wp2_with fail
      refine (samePairs_c _ _ _ _ (Rd.of_own HO.out) (Rd.of_own HW.out)).mono ?_
      rintro e w4 ⟨rfl, hbd⟩
      have HV := Lib.hid (HV.out.below hbd)
      have HO := Lib.hid (own_below HO.out hbd)
      have HW := Lib.hid (own_below HW.out hbd)
      have T := Lib.hid (T.out.trans (hbd.mono T.out.size))
      clear hbd
      obtain ⟨m, rfl⟩ := Int.eq_ofNat_of_zero_le hok.2.1
      have HJ := Lib.hid hok.1
      have hmt : m ≤ tot F := by have := hok.2.2; omega
      have ht24 := tot_le hok.1
      have hm24 : m ≤ 24 := by omega
      have HMT := Lib.hid hmt
      have HRV : Hid (R = vw F m) := by show _ = _; rw [← HR.out, vaL_t hok, Int.toNat_natCast]
      have hRm : R.length ≤ m := by rw [HRV.out]; exact vw_len F m
      have hR10 : R.length ≤ 10 := by rw [HRV.out]; exact vw_len10 F m
      clear hok hmt ht24 HW hx1 hx2
      go_wp2_with fail
      refine (viewAt_c F _ 0 _ HV.out).mono ?_
      rintro e w5 ⟨v0, rfl, h0, hbd⟩
      have hva0 : VaOk F 0 := ⟨HJ.out, by omega, by omega⟩
      rw [vaL_t hva0, show vw F (0 : Int).toNat = [] from List.eq_nil_of_length_eq_zero (Nat.le_zero.1 (vw_len F 0))] at h0
      obtain ⟨a9, c9, rfl⟩ := own_slice h0
      rw [vaB_t hva0]
      have HV := Lib.hid (HV.out.below hbd)
      have HO := Lib.hid (own_below HO.out hbd)
      have T := Lib.hid (T.out.trans (hbd.mono T.out.size))
      clear hbd
      clear h0 hva0
      have hRm' : (R.length : Int) ≤ (m : Int) := by omega
      go_wp2
      go_ret
      exact ⟨by first | rfl | (simp; omega), T.out⟩
    · rw [vaB_f hok]
      clear hok
      go_wp2_with fail
      refine (samePairs_c _ _ _ _ (Rd.of_own HO.out) (Rd.of_own HW.out)).mono ?_
      rintro e w4 ⟨rfl, hbd⟩
      have HV := Lib.hid (HV.out.below hbd)
      have HO := Lib.hid (own_below HO.out hbd)
      have HW := Lib.hid (own_below HW.out hbd)
      have T := Lib.hid (T.out.trans (hbd.mono T.out.size))
      clear hbd
      go_wp2_with fail
      refine (samePairs_c _ _ _ _ (Rd.of_own HO.out) (Rd.of_own HW.out)).mono ?_
      rintro e w5 ⟨rfl, hbd⟩
      have HV := Lib.hid (HV.out.below hbd)
      have HO := Lib.hid (own_below HO.out hbd)
      have HW := Lib.hid (own_below HW.out hbd)
      have T := Lib.hid (T.out.trans (hbd.mono T.out.size))
      clear hbd
      go_wp2
      go_ret
      exact ⟨rfl, T.out⟩
set_option maxRecDepth 100000 in
set_option maxHeartbeats 6400000 in
theorem lawFnViewSize_c (w : World) (v : Value) (n : Nat) (h : RdB w v n) : Calls Try.prog 6 #[v] w fun e w' => e = .returned (.bool true) ∧ Below w.heap.size w w' := by
  have hB := h
  obtain ⟨a, cap, rfl, h1, h2, -⟩ := h
  unfold maxLen at h2
  by_cases hn : 1048576 < n
  · go_enter Try.func6, Try.ntmps6
    go_wp2
    go_ret
    exact ⟨rfl, Below.refl _ _⟩
  · go_enter Try.func6, Try.ntmps6
    go_wp2_with fail
    refine (drawViewAt_c _ n _ hB).mono ?_
    rintro e w1 ⟨v, F, x, rfl, hF, hbd, hx1, hx2⟩
    have HV := Lib.hid hF
    have T := Lib.hid hbd
    clear hF hbd
    obtain ⟨R, hR⟩ : ∃ R, vaL F x = R := ⟨_, rfl⟩
    have HR := Lib.hid hR
    clear hR
    go_wp2_with fail
    refine (viewAt_c F _ x _ HV.out).mono ?_
    rintro e w2 ⟨vo, rfl, hO, hbd⟩
    have HV := Lib.hid (HV.out.below hbd)
    have T := Lib.hid (T.out.trans (hbd.mono T.out.size))
    clear hbd
    rw [HR.out] at hO
    obtain ⟨ao, co, rfl⟩ := own_slice hO
    have HO := Lib.hid hO
    clear hO
    go_wp2_with fail
    refine (specViewAt_c F _ x _ HV.out).mono ?_
    rintro e w3 ⟨vz, rfl, hW, hbd⟩
    have HV := Lib.hid (HV.out.below hbd)
    have HO := Lib.hid (own_below HO.out hbd)
    have T := Lib.hid (T.out.trans (hbd.mono T.out.size))
    clear hbd
    rw [HR.out] at hW
    have HW := Lib.hid hW
    clear hW
    by_cases hok : VaOk F x
    · rw [vaB_t hok]
      go_wp2_with fail
      refine (samePairs_c _ _ _ _ (Rd.of_own HO.out) (Rd.of_own HW.out)).mono ?_
      rintro e w4 ⟨rfl, hbd⟩
      have HV := Lib.hid (HV.out.below hbd)
      have HO := Lib.hid (own_below HO.out hbd)
      have HW := Lib.hid (own_below HW.out hbd)
      have T := Lib.hid (T.out.trans (hbd.mono T.out.size))
      clear hbd
      obtain ⟨m, rfl⟩ := Int.eq_ofNat_of_zero_le hok.2.1
      have HJ := Lib.hid hok.1
      have hmt : m ≤ tot F := by have := hok.2.2; omega
      have ht24 := tot_le hok.1
      have hm24 : m ≤ 24 := by omega
      have HMT := Lib.hid hmt
      have HRV : Hid (R = vw F m) := by show _ = _; rw [← HR.out, vaL_t hok, Int.toNat_natCast]
      have hRm : R.length ≤ m := by rw [HRV.out]; exact vw_len F m
      have hR10 : R.length ≤ 10 := by rw [HRV.out]; exact vw_len10 F m
      clear hok hmt ht24 HW hx1 hx2
      have hRc : R.length ≤ co := by
        obtain ⟨-, a2, c2, e2, g1, -⟩ := Rd.of_own HO.out
        simp only [Value.slice.injEq, true_and] at e2
        omega
      have hcm : co ≤ maxLen := by
        obtain ⟨-, a2, c2, e2, -, g1, -⟩ := Rd.of_own HO.out
        simp only [Value.slice.injEq, true_and] at e2
        rw [e2.2]; exact g1
      unfold maxLen at hcm
      have HAS : Hid (∀ j, j + 1 < R.length → (R.getD j (0, 0)).1 < (R.getD (j + 1) (0, 0)).1) := fun j hj => by rw [HRV.out] at hj ⊢; exact vw_asc F m j hj
      go_wp2
      go_loopw [9] (fun i' wr => ∃ i : Nat, 1 ≤ i ∧ (i ≤ R.length ∨ i = 1) ∧ i' = .int .i64 i ∧ Hid (Below w4.heap.size w4 wr)) (fun i' _ => R.length - (intOf i').toNat)
      case atStart => exact ⟨1, by omega, .inr rfl, rfl, Below.refl _ _⟩
      case round =>
        obtain ⟨i, hi1, hi, rfl, HBr⟩ := hrel
        by_cases hlt : i < R.length
        · obtain ⟨j, rfl⟩ : ∃ j, i = j + 1 := ⟨i - 1, by omega⟩
          have hwj : IntKind.i64.wrap (((j + 1 : Nat) : Int) - 1) = (j : Int) := by rw [IntKind.wrap_i64]; omega
          obtain ⟨-, a2, c2, e2, -, -, g3⟩ := Rd.of_own HO.out
          simp only [Value.slice.injEq, true_and] at e2
          obtain ⟨rfl, rfl⟩ := e2
          obtain ⟨b1, o1, rfl, g4⟩ := g3 (by omega)
          obtain ⟨x, y, e1, u1, u2⟩ := at2 HBr.out g4 j (by omega)
          obtain ⟨x', y', e1', u1', u2'⟩ := at2 HBr.out g4 (j + 1) hlt
          have hlt2 : decide (x' ≤ x) = false := by have := HAS.out j hlt; rw [e1, e1'] at this; simp; exact this
          have hlt3 : ¬ (x' ≤ x) := by simpa using hlt2
          have HD : Hid (∀ n, Below w4.heap.size w4 (wr.drewN n)) := fun n => by have := HBr.out; (repeat' (first | exact Below.refl _ _ | assumption | refine Below.drew ?_ | refine below_drewN ?_ _ | refine Below.alloc ?_ (by omega) _ | refine Below.alloc ?_ (by simp; omega) _ | refine Below.alloc ?_ (by simp) _ | refine Below.setCell ?_ (by omega) _ | refine Below.setCell ?_ (by simp; omega) _ | refine Below.setCell ?_ (by simp) _))
          have hlj : ((j + 1 : Nat) : Int) < (R.length : Int) := by omega
          have hlj' : (j : Int) < (R.length : Int) := by omega
          clear e1 e1' g3 g4
          go_wp2
          go_quiet (fail)
          go_wp2
          go_roundw
          case rel => exact ⟨j + 2, by omega, by omega, by go_num, HD.out _⟩
          case measure => simp [intOf]; omega
        · have hRm' : (R.length : Int) ≤ (m : Int) := by omega
          have hR10' : (R.length : Int) ≤ 10 := by omega
          go_wp2
          go_ret
          exact ⟨by first | rfl | (simp; omega), T.out.trans (HBr.out.mono T.out.size)⟩
    · rw [vaB_f hok]
      clear hok
      go_wp2_with fail
      refine (samePairs_c _ _ _ _ (Rd.of_own HO.out) (Rd.of_own HW.out)).mono ?_
      rintro e w4 ⟨rfl, hbd⟩
      have HV := Lib.hid (HV.out.below hbd)
      have HO := Lib.hid (own_below HO.out hbd)
      have HW := Lib.hid (own_below HW.out hbd)
      have T := Lib.hid (T.out.trans (hbd.mono T.out.size))
      clear hbd
      go_wp2_with fail
      refine (samePairs_c _ _ _ _ (Rd.of_own HO.out) (Rd.of_own HW.out)).mono ?_
      rintro e w5 ⟨rfl, hbd⟩
      have HV := Lib.hid (HV.out.below hbd)
      have HO := Lib.hid (own_below HO.out hbd)
      have HW := Lib.hid (own_below HW.out hbd)
      have T := Lib.hid (T.out.trans (hbd.mono T.out.size))
      clear hbd
      go_wp2
      go_ret
      exact ⟨rfl, T.out⟩
end Go.Proofs.Ytedcolbbbohbaaa
