/- Draws of entries before and after some more, and of a number of entries. -/
import Derived.Test.YtedcolbbbohbaaaJwP
namespace Go.Proofs.Ytedcolbbbohbaaa
open Go.RowKit
/-- two lots of entries, to be read -/
def DrFF (w : World) (e : Ending) (w' : World) : Prop := ∃ v F u G, e = .returned (.tuple #[v, u]) ∧ RdF All w' v F ∧ RdF All w' u G ∧ Below w.heap.size w w'
def TwoPost (B r : Nat) (w : World) (e : Ending) (w' : World) : Prop := ∃ v F u G, e = .returned (.tuple #[v, u]) ∧ RdF All w' v F ∧ RdF All w' u G ∧ w.grownBy w' (some r)
set_option maxRecDepth 100000 in
set_option maxHeartbeats 3200000 in
theorem l92Two_c (B r P : Nat) (W : World) (hR : Reader B W r P) (hP : P ≤ 4294960000) :
    Calls Try.prog 57 #[.pointer (some ⟨r, 0, none⟩)] W (TwoPost B r W) := by
  have hrB := hR.1
  have hBW := hR.2.1
  have hrW : r < W.heap.size := Nat.lt_of_lt_of_le hrB hBW
  go_enter Try.func57, Try.ntmps57
  go_wp2_with fail
  refine (l92Join_c B r P _ hR (by omega)).mono ?_
  rintro e w1 ⟨v1, F1, rfl, hj1, hF1, hR1, hg1⟩
  have HF1 := Lib.hid hF1
  have HJ1 := Lib.hid hj1
  clear hF1 hj1 hR
  go_wp2_with fail
  refine (pick_c B r _ 6 _ hR1 (by omega)).mono ?_
  rintro e w2 ⟨m, rfl, hm0, hm1, hR2, hg2⟩
  obtain ⟨n, rfl⟩ := Int.eq_ofNat_of_zero_le hm0
  have hn6 : n < 6 := by have := hm1 (by omega); omega
  have HG2 := Lib.hid (grown_trans hg1 hg2)
  have HF2 := Lib.hid (rdF_kept HF1.out hg2 (by show ¬ (_ ≤ r); omega))
  have HR2 := Lib.hid (hR2.le (P' := P + 401 + 16 * 0) (by omega))
  clear hm0 hm1 hg1 hg2 hR1 hR2
  go_wp2
  go_loopw [5, 7] (fun o i' wr => ∃ (k : Nat) (G : Fd), k ≤ n ∧ i' = .int .i64 k ∧ JV G ∧ Hid (RdF (fun b => W.heap.size ≤ b) wr o G) ∧ Hid (RdF (fun b => W.heap.size ≤ b) wr v1 F1) ∧ Hid (Reader B wr r (P + 401 + 16 * k)) ∧ Hid (W.grownBy wr (some r))) (fun _ i' _ => n - (intOf i').toNat)
  case atStart => exact ⟨0, F1, Nat.zero_le _, rfl, HJ1.out, HF2, HF2, HR2, HG2⟩
  case round =>
    clear HF2 HR2 HG2
    obtain ⟨k, G, hk, rfl, hj, HFo, HF, HR, HG⟩ := hrel
    have HJ := Lib.hid hj
    have hsz := HG.out.size
    clear hj
    by_cases hlt : k < n
    · have hlt' : (k : Int) < (n : Int) := by omega
      go_wp2_with fail
      refine (l92Step_c (S := fun b => W.heap.size ≤ b) B r _ G _ _ HR.out (by omega) HFo.out HJ.out (fun b hb => Nat.le_trans hsz hb) (by show ¬ (_ ≤ r); omega)).mono ?_
      rintro e w3 ⟨v3, F3, rfl, hj3, hF3, hR3, hg3⟩
      have HF3 := Lib.hid hF3
      have HFk := Lib.hid (rdF_kept HF.out hg3 (by show ¬ (_ ≤ r); omega))
      have HR3 := Lib.hid (hR3.le (P' := P + 401 + 16 * (k + 1)) (by omega))
      have HG3 := Lib.hid (grown_trans HG.out hg3)
      clear hF3 hR3 hg3
      go_wp2
      go_roundw
      case rel => exact ⟨k + 1, F3, by omega, by go_num, hj3, HF3, HFk, HR3, HG3⟩
      case measure => simp [intOf]; omega
    · go_wp2_with fail
      refine (pick_c B r _ 10 _ HR.out (by omega)).mono ?_
      rintro e w3 ⟨m3, rfl, -, -, hR3, hg3⟩
      have HFo3 := Lib.hid (rdF_kept HFo.out hg3 (by show ¬ (_ ≤ r); omega))
      have HF3 := Lib.hid (rdF_kept HF.out hg3 (by show ¬ (_ ≤ r); omega))
      have HG3 := Lib.hid (grown_trans HG.out hg3)
      have hsz3 := HG3.out.size
      clear hg3
      by_cases h0 : m3 = 0
      · subst h0
        go_wp2
        go_ret2
        exact ⟨_, G, _, F1, rfl, HFo3.out.all, HF3.out.all, HG3.out⟩
      · have h0' : (m3 == 0) = false := by rw [beq_eq_false_iff_ne]; exact h0
        clear h0
        go_wp2_with fail
        refine (l92Bent_c (S := fun b => W.heap.size ≤ b) B r _ F1 _ _ hR3 (by omega) HF3.out HJ1.out).mono ?_
        rintro e w4 ⟨v4, F4, rfl, hF4, -, -, -, hR4, hg4⟩
        have HF4 := Lib.hid hF4
        have HFo4 := Lib.hid (rdF_kept HFo3.out hg4 (by show ¬ (_ ≤ r); omega))
        have HG4 := Lib.hid (grown_trans HG3.out hg4)
        clear hF4 hg4
        go_wp2_with fail
        refine (l92Bent_c (S := fun b => W.heap.size ≤ b) B r _ G _ _ hR4 (by omega) HFo4.out HJ.out).mono ?_
        rintro e w5 ⟨v5, F5, rfl, hF5, -, -, -, hR5, hg5⟩
        have HF5 := Lib.hid (rdF_kept HF4.out hg5 (by show ¬ (_ ≤ r); omega))
        have HG5 := Lib.hid (grown_trans HG4.out hg5)
        have HG5' := Lib.hid hF5
        clear hF5 hg5 hR3 hR4 hR5
        go_wp2
        go_ret2
        exact ⟨_, F4, _, F5, rfl, HF5.out.all, HG5'.out.all, HG5.out⟩
theorem drawViewKept_c (v : Value) (n : Nat) (w : World) (h : RdB w v n) : Calls Try.prog 31 #[v] w (DrFF w) := by
  go_enter Try.func31, Try.ntmps31
  go_wp2_with fail
  refine (l6Open_c _ n _ h).mono ?_
  rintro e w1 ⟨r, rfl, hr, hR, hb1⟩
  clear h
  go_wp2_with fail
  refine (l92Two_c _ r 0 _ hR (by omega)).mono ?_
  rintro e w2 ⟨v2, F2, u2, G2, rfl, hF, hG, hg2⟩
  have hb2 := below_r hb1 hg2 hr
  clear hR hg2 hb1
  go_wp2
  go_ret2
  exact ⟨_, F2, _, G2, rfl, hF, hG, hb2⟩
/-- entries and a number -/
def DrFN (w : World) (e : Ending) (w' : World) : Prop := ∃ (v : Value) (F : Fd) (x : Int), e = .returned (.tuple #[v, .int .i64 x]) ∧ RdF All w' v F ∧ Below w.heap.size w w' ∧ -100 ≤ x ∧ x ≤ 100
end Go.Proofs.Ytedcolbbbohbaaa
