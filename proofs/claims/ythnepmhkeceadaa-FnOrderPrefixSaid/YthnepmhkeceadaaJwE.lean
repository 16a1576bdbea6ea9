/- Walks: JoinValid of the reference; places and seeing. -/
import Derived.Test.YthnepmhkeceadaaJwD
namespace Go.Proofs.Ythnepmhkeceadaa
open Go.RowKit
set_option maxHeartbeats 3200000 in
theorem specJoinValid_c {S : Nat → Prop} (F : Fd) (fv : Value) (W : World) (h : RdF S W fv F) :
    Calls Try.prog 30 #[fv] W (SeesPost (jvB F) W) := by
  obtain ⟨a, cap, rfl, h1, h2⟩ := h.shape
  unfold maxLen at h2
  by_cases h3 : F.length = 3
  · rw [h3] at h h1 ⊢
    have H := Lib.hid h
    have HF := Lib.hid h3
    clear h h3
    go_enter Try.func30, Try.ntmps30
    go_wp2
    go_loopw [3] (fun i' wr => ∃ w : Nat, w ≤ 3 ∧ i' = .int .i64 w ∧ Hid (Below W.heap.size W wr) ∧ Hid (∀ u, u < w → ln F u ≤ 8 ∧ ∀ i, i < ln F u → Clk F u i ∧ (0 ≤ (ent F u i).2.1 ∧ (ent F u i).2.1 ≤ 9) ∧ 0 ≤ (ent F u i).2.2 ∧ (ent F u i).2.2 ≤ 99)) (fun i' _ => 3 - (intOf i').toNat)
    case atStart => exact ⟨0, Nat.zero_le _, rfl, Below.refl _ _, fun u hu => absurd hu (Nat.not_lt_zero _)⟩
    case round =>
      obtain ⟨w, hw, rfl, HBr, HN⟩ := hrel
      obtain ⟨wo, rfl⟩ : ∃ wo : World, wo = wr := ⟨_, rfl⟩
      by_cases hlt : w < 3
      · obtain ⟨b, off, cap', a2, cap2, e1, -, -, cc1, g1, g2, -⟩ := H.out.feed (j := w) (by rw [HF.out]; exact hlt)
        simp only [Value.slice.injEq] at e1
        obtain ⟨rfl, -, rfl⟩ := e1
        unfold maxLen at g2
        have CC := Lib.hid cc1
        have cc1 := cell_keep HBr.out cc1
        have hlt' : (w : Int) < 3 := by omega
        by_cases h8 : ln F w ≤ 8
        · have h8' : (ln F w : Int) ≤ 8 := by omega
          go_wp2
          go_loopw [4] (fun i' wr => ∃ i : Nat, i ≤ ln F w ∧ i' = .int .i64 i ∧ Hid (Below W.heap.size W wr) ∧ Hid (∀ j, j < i → Clk F w j ∧ (0 ≤ (ent F w j).2.1 ∧ (ent F w j).2.1 ≤ 9) ∧ 0 ≤ (ent F w j).2.2 ∧ (ent F w j).2.2 ≤ 99)) (fun i' _ => ln F w - (intOf i').toNat)
          case atStart => exact ⟨0, Nat.zero_le _, rfl, HBr, fun u hu => absurd hu (Nat.not_lt_zero _)⟩
          case round =>
            clear HBr cc1
            obtain ⟨i, hi, rfl, HBi, HI⟩ := hrel
            have cc1 := cell_keep HBi.out CC.out
            by_cases hil : i < ln F w
            · have hF2 := H.out.below HBi.out
              have hil' : (i : Int) < (ln F w : Int) := by omega
              go_wp2_with fail
              refine (l31Clock_c F _ w i _ hF2 HF.out hlt hil h8).mono ?_
              rintro e w2 ⟨rfl, hb2⟩
              have HB2 := Lib.hid (HBi.out.trans (hb2.mono HBi.out.size))
              obtain ⟨b3, o3, c3, bA, oA, cA, aB, cB, ev, -, -, d1, q1, q2, d2, d3, d4, -⟩ := (H.out.below HB2.out).entry (j := w) (i := i) (by rw [HF.out]; exact hlt) hil
              simp only [Value.slice.injEq, Option.some.injEq, Addr.mk.injEq, and_true] at ev
              obtain ⟨⟨rfl, rfl⟩, -, rfl⟩ := ev
              obtain ⟨key, hkey⟩ : ∃ L, (ent F w i).2.1 = L := ⟨_, rfl⟩
              obtain ⟨val, hval⟩ : ∃ L, (ent F w i).2.2 = L := ⟨_, rfl⟩
              rw [hkey] at d3
              rw [hval] at d4
              unfold maxLen at q2
              have HE := Lib.hid (And.intro hkey hval)
              clear hb2 hkey hval hF2 d2 cc1
              by_cases hc : Clk F w i
              · rw [clB_t hc]
                have HC := Lib.hid hc
                clear hc
                by_cases hk : 0 ≤ key ∧ key ≤ 9
                · obtain ⟨k1, k2⟩ := hk
                  go_wp2_with fail
                  refine (l6In_t key 0 9 _ k1 k2).mono ?_
                  rintro e _ ⟨rfl, rfl⟩
                  have HK := Lib.hid (And.intro k1 k2)
                  clear k1 k2
                  by_cases hv : 0 ≤ val ∧ val ≤ 99
                  · obtain ⟨k1, k2⟩ := hv
                    go_wp2_with fail
                    refine (l6In_t val 0 99 _ k1 k2).mono ?_
                    rintro e _ ⟨rfl, rfl⟩
                    have HV := Lib.hid (And.intro k1 k2)
                    clear k1 k2
                    go_wp2
                    go_roundw
                    case rel =>
                      refine ⟨i + 1, by omega, by go_num, HB2, fun j hj => ?_⟩
                      by_cases e : j = i
                      · subst e; exact ⟨HC.out, by rw [HE.out.1]; exact HK.out, by rw [HE.out.2]; exact HV.out⟩
                      · exact HI.out j (by omega)
                    case measure => simp [intOf]; omega
                  · have hv' : val < 0 ∨ 99 < val := by omega
                    clear hv
                    go_wp2_with fail
                    refine (l6In_f val 0 99 _ hv').mono ?_
                    rintro e _ ⟨rfl, rfl⟩
                    have HV := Lib.hid hv'
                    clear hv'
                    go_wp2
                    go_ret
                    exact ⟨ret_b (jvB_f fun hh => by have := ((JV_iff.1 hh).2 w hlt i hil).2.2; rw [HE.out.2] at this; have := HV.out; omega).symm, HB2.out⟩
                · have hv' : key < 0 ∨ 9 < key := by omega
                  clear hk
                  go_wp2_with fail
                  refine (l6In_f key 0 9 _ hv').mono ?_
                  rintro e _ ⟨rfl, rfl⟩
                  have HV := Lib.hid hv'
                  clear hv'
                  go_wp2
                  go_ret
                  exact ⟨ret_b (jvB_f fun hh => by have := ((JV_iff.1 hh).2 w hlt i hil).2.1; rw [HE.out.1] at this; have := HV.out; omega).symm, HB2.out⟩
              · rw [clB_f hc]
                have HC := Lib.hid hc
                clear hc
                go_wp2
                go_ret
                exact ⟨ret_b (jvB_f fun hh => HC.out ((JV_iff.1 hh).2 w hlt i hil).1).symm, HB2.out⟩
            · obtain rfl : ln F w = i := by omega
              go_wp2
              go_roundw
              case rel =>
                refine ⟨w + 1, by omega, by go_num, HBi, fun u hu => ?_⟩
                by_cases e : u = w
                · subst e; exact ⟨h8, HI.out⟩
                · exact HN.out u (by omega)
              case measure => simp [intOf]; omega
        · have h8' : (8 : Int) < (ln F w : Int) := by omega
          go_wp2
          go_ret
          exact ⟨ret_b (jvB_f fun hh => h8 (hh.2.1 w hlt)).symm, HBr.out⟩
      · obtain rfl : w = 3 := by omega
        have hT := Lib.hid (show JV F from JV_iff.2 ⟨⟨HF.out, fun w hw => (HN.out w hw).1⟩, fun w hw => (HN.out w hw).2⟩)
        go_wp2
        go_ret
        exact ⟨ret_b (jvB_t hT.out).symm, HBr.out⟩
  · have hne : ((F.length : Int) == 3) = false := by rw [beq_eq_false_iff_ne]; omega
    have HN := Lib.hid h3
    clear h h3
    go_enter Try.func30, Try.ntmps30
    go_wp2
    go_ret
    exact ⟨ret_b (jvB_f fun hh => HN.out hh.1).symm, Below.refl _ _⟩
end Go.Proofs.Ythnepmhkeceadaa
