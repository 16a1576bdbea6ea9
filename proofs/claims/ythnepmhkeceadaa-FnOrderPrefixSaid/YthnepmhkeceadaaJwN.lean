/- Contracts of the draws of entries. -/
import Derived.Test.YthnepmhkeceadaaJwM
namespace Go.Proofs.Ythnepmhkeceadaa
open Go.RowKit
theorem rdF_kept {S : Nat → Prop} {w w' : World} {v : Value} {F : Fd} {r : Nat} (h : RdF S w v F) (hg : w.grownBy w' (some r)) (hr : ¬ S r) : RdF S w' v F :=
  h.chg (Chg.of_grown hg) (fun k hk e => by cases e; exact hr hk)
theorem ownF_kept {S : Nat → Prop} {w w' : World} {v : Value} {F : Fd} {r : Nat} (h : OwnF S w v F) (hg : w.grownBy w' (some r)) (hr : ¬ S r) : OwnF S w' v F :=
  h.chg (Chg.of_grown hg) (fun k hk e => by cases e; exact hr hk)
theorem grown_b {w w' w'' : World} {r : Nat} (h : w.grownBy w' (some r)) (hb : Below w'.heap.size w' w'') : w.grownBy w'' (some r) := grown_trans h (below_grown hb _)
/-- a step of the draws: entries that stand, or one more -/
def StepPost (S : Nat → Prop) (B r P : Nat) (w : World) (e : Ending) (w' : World) : Prop :=
  ∃ (v : Value) (F : Fd), e = .returned v ∧ JV F ∧ RdF S w' v F ∧ Reader B w' r P ∧ w.grownBy w' (some r)
set_option maxHeartbeats 6400000 in
theorem l92Step_c {S : Nat → Prop} (B r P : Nat) (F : Fd) (fv : Value) (W : World) (hR : Reader B W r P) (hP : P ≤ 4294967200) (h : RdF S W fv F) (hj : JV F) (hS : ∀ b, W.heap.size ≤ b → S b) (hr : ¬ S r) :
    Calls Try.prog 61 #[.pointer (some ⟨r, 0, none⟩), fv] W (StepPost S B r (P + 16) W) := by
  have HJ := Lib.hid hj
  obtain ⟨a0, cap0, rfl, q1, q2⟩ := h.shape
  rw [hj.1] at q1 h ⊢
  unfold maxLen at q2
  have H := Lib.hid h
  have hrB := hR.1
  have hBW := hR.2.1
  have hrW : r < W.heap.size := Nat.lt_of_lt_of_le hrB hBW
  have HSr := Lib.hid (And.intro hS hr)
  clear h hj hS hr
  go_enter Try.func61, Try.ntmps61
  go_wp2_with fail
  refine (pick_c B r P 3 _ hR (by omega)).mono ?_
  rintro e w1 ⟨m, rfl, hm0, hm1, hR1, hg1⟩
  obtain ⟨wn, rfl⟩ := Int.eq_ofNat_of_zero_le hm0
  have hwn : wn < 3 := by have := hm1 (by omega); omega
  have hz1 := hg1.size
  -- the numbers that are known
  have HK0 : Hid ((w1.alloc (.cells #[.int .i64 0, .int .i64 0, .int .i64 0] 3)).ownsRow 0 3 1 (.slice (some ⟨w1.heap.size, 0, none⟩) 3 3) 3 (enc1 (lst3 (fun _ => 0)))) := by
    refine ⟨rfl, .inr ⟨w1.heap.size, 3, #[.int .i64 0, .int .i64 0, .int .i64 0], rfl, Nat.zero_le _, heap_alloc_new w1 _, Nat.le_refl _, by simp [maxLen], rfl, rfl⟩⟩
  have HG1 := Lib.hid hg1
  have HR0 : Hid (Reader B (w1.alloc (.cells #[.int .i64 0, .int .i64 0, .int .i64 0] 3)) r (P + 1)) := hR1.below ((Below.refl _ _).alloc (Nat.le_refl _) _)
  have HG0 : Hid (W.grownBy (w1.alloc (.cells #[.int .i64 0, .int .i64 0, .int .i64 0] 3)) (some r)) := grown_b hg1 ((Below.refl _ _).alloc (Nat.le_refl _) _)
  clear hm0 hm1 hR1 hg1 hR
  go_wp2
  go_loopw [7] (fun i' wr => ∃ (v : Nat) (g : Nat → Int), v ≤ 3 ∧ i' = .int .i64 v ∧ Hid (wr.ownsRow 0 3 1 (.slice (some ⟨w1.heap.size, 0, none⟩) 3 3) 3 (enc1 (lst3 g))) ∧ Hid (Reader B wr r (P + 1 + 3 * v)) ∧ Hid (W.grownBy wr (some r))) (fun i' _ => 3 - (intOf i').toNat)
  case atStart => exact ⟨0, _, by omega, rfl, HK0, HR0, HG0⟩
  case round =>
    clear HK0 HR0 HG0
    obtain ⟨v, g, hv, rfl, HK, HR, HG⟩ := hrel
    by_cases hlt : v < 3
    · have hlt' : (v : Int) < 3 := by omega
      obtain ⟨b5, o5, c5, a6, c6, ev, -, -, q5, q6, q7, -⟩ := (rdF_kept H.out HG.out HSr.out.2).feed (j := v) (by rw [HJ.out.1]; exact hlt)
      rw [HJ.out.1] at ev
      simp only [Value.slice.injEq] at ev
      obtain ⟨rfl, -, rfl⟩ := ev
      unfold maxLen at q7
      have h8 := HJ.out.2.1 v hlt
      go_wp2_with fail
      refine (pick_c B r _ 3 _ HR.out (by omega)).mono ?_
      rintro e w2 ⟨m, rfl, hm0, hm1, hR2, hg2⟩
      have hm3 : m < 3 := hm1 (by omega)
      have hrw1 : r ≠ w1.heap.size := by omega
      have HK2 : Hid (w2.ownsRow 0 3 1 (.slice (some ⟨w1.heap.size, 0, none⟩) 3 3) 3 (enc1 (lst3 g))) := own_chg HK.out (Chg.of_grown hg2) (fun k hk e => by simp [Value.ownBlock] at hk; simp at e; omega)
      have HG2 := Lib.hid (grown_trans HG.out hg2)
      have cg := (own_cells3 HK2.out v hlt).1
      have fg := (own_cells3 HK2.out v hlt).2
      have hws : IntKind.i64.wrap ((ln F v : Int) - m) = (ln F v : Int) - m := by rw [IntKind.wrap_i64]; omega
      clear hm1 hg2 q5 HK HG HR
      -- whatever is stored
      have ST : ∀ (g : Nat → Int) (w3 : World) (z : Int), Hid (w3.ownsRow 0 3 1 (.slice (some ⟨w1.heap.size, 0, none⟩) 3 3) 3 (enc1 (lst3 g))) → Hid ((w3.setCell ⟨w1.heap.size, v, none⟩ (.int .i64 z)).ownsRow 0 3 1 (.slice (some ⟨w1.heap.size, 0, none⟩) 3 3) 3 (enc1 (lst3 (upd1 g v z)))) := fun g w3 z h3 => by
        have := (h3.out.stored v (.int .i64 z)).1
        rw [← lst3_set g hlt] at this
        exact this
      have HST := Lib.hid ST
      have hbs : ∀ (w3 : World) (u : Value), W.grownBy w3 (some r) → W.grownBy (w3.setCell ⟨w1.heap.size, v, none⟩ u) (some r) := fun w3 u h3 =>
        ⟨h3.os, h3.tape, h3.output, by simpa using h3.size, fun k hk hne => by rw [heap_setCell_other w3 ⟨w1.heap.size, v, none⟩ k u (by simp; omega)]; exact h3.block k hk hne⟩
      have HBS := Lib.hid hbs
      have hrs : ∀ (w3 : World) (Q : Nat) (u : Value), Reader B w3 r Q → Reader B (w3.setCell ⟨w1.heap.size, v, none⟩ u) r Q := fun w3 Q u h3 => h3.kept (grown_set (g := w1.heap.size) (World.grownBy.refl _ _)) (fun k hk => by cases hk; omega)
      have HRS := Lib.hid hrs
      have hnk : ∀ k, (Value.slice (some ⟨w1.heap.size, 0, none⟩) 3 3).ownBlock = some k → ¬ (some r = some k) := fun k hk e => by simp [Value.ownBlock] at hk; simp at e; omega
      have HNK := Lib.hid hnk
      have hw1n : IntKind.i64.wrap ((ln F v : Int) + 1) = (ln F v : Int) + 1 := by rw [IntKind.wrap_i64]; omega
      clear ST hbs hrs hnk
      go_wp2_with fail
      all_goals
        refine (pick_c B r _ 4 _ (HRS.out _ _ _ hR2) (by omega)).mono ?_
        rintro e w4 ⟨m2, rfl, hm0', -, hR4, hg4⟩
        have HK4 := Lib.hid (own_chg (HST.out _ w2 _ HK2).out (Chg.of_grown hg4) HNK.out)
        have HG4 := Lib.hid (grown_trans (HBS.out w2 _ HG2.out) hg4)
        have cg4 := (own_cells3 HK4.out v hlt).1
        have fg4 := (own_cells3 HK4.out v hlt).2
        clear cg fg hg4
        by_cases h0 : m2 = 0
        · subst h0
          go_wp2_with fail
          refine (pick_c B r _ ((ln F v : Int) + 1) _ hR4 (by omega)).mono ?_
          rintro e w5 ⟨m3, rfl, hm0'', -, hR5, hg5⟩
          have HK5 := Lib.hid (own_chg HK4.out (Chg.of_grown hg5) HNK.out)
          have HG5 := Lib.hid (grown_trans HG4.out hg5)
          have cg5 := (own_cells3 HK5.out v hlt).1
          have fg5 := (own_cells3 HK5.out v hlt).2
          have N1 := HST.out _ w5 m3 HK5
          have N2 := Lib.hid ((HRS.out w5 _ (.int .i64 m3) hR5).le (P' := P + 1 + 3 * (v + 1)) (by omega))
          have N3 := Lib.hid (HBS.out w5 (.int .i64 m3) HG5.out)
          clear cg4 fg4 hg5 HK4 HG4 hR4 hR5 hR2
          go_wp2
          go_roundw
          case rel => first | exact ⟨v + 1, _, by omega, by go_num, N1, N2, N3⟩ | exact ⟨v + 1, by omega, by omega, _, N1, N2⟩ | ((repeat apply Exists.intro); exact ⟨⟨v + 1, _, by omega, by go_num, N1, N2, N3⟩, rfl⟩)
          case measure => simp [intOf]; omega
        · have h0' : (m2 == 0) = false := by rw [beq_eq_false_iff_ne]; exact h0
          have N2 := Lib.hid (hR4.le (P' := P + 1 + 3 * (v + 1)) (by omega))
          clear h0 hR4 hR2 cg4 fg4
          go_wp2
          go_roundw
          case rel => first | exact ⟨v + 1, _, by omega, by go_num, HK4, N2, HG4⟩ | ((repeat apply Exists.intro); exact ⟨⟨v + 1, _, by omega, by go_num, HK4, N2, HG4⟩, rfl⟩)
          case measure => simp [intOf]; omega
    · obtain rfl : v = 3 := by omega
      go_wp2_with fail
      refine (pick_c B r _ 10 _ HR.out (by omega)).mono ?_
      rintro e w2 ⟨m2, rfl, hm0, hm1, hR2, hg2⟩
      have hm1 := hm1 (by omega)
      have hnk : ∀ k, (Value.slice (some ⟨w1.heap.size, 0, none⟩) 3 3).ownBlock = some k → ¬ (some r = some k) := fun k hk e => by simp [Value.ownBlock] at hk; simp at e; omega
      have HK2 := Lib.hid (own_chg HK.out (Chg.of_grown hg2) hnk)
      have HG2 := Lib.hid (grown_trans HG.out hg2)
      clear HK HG HR hg2
      go_wp2_with fail
      refine (pick_c B r _ 100 _ hR2 (by omega)).mono ?_
      rintro e w3 ⟨m3, rfl, hm0', hm1', hR3, hg3⟩
      have hm1' := hm1' (by omega)
      have HK3 := Lib.hid (own_chg HK2.out (Chg.of_grown hg3) hnk)
      have HG3 := Lib.hid (grown_trans HG2.out hg3)
      clear HK2 HG2 hR2 hg3 hnk
      go_wp2_with fail
      refine (specJoinAppend_c F _ (wn : Int) _ (lst3 g) m2 m3 _ (rdF_kept H.out HG3.out HSr.out.2) (RdS.of_own HK3.out)).mono ?_
      rintro e w4 ⟨v4, rfl, hF4, hb4⟩
      have HG4 := Lib.hid (grown_b HG3.out hb4)
      have HR4 := Lib.hid ((hR3.below hb4).le (P' := P + 16) (by omega))
      have HRF := Lib.hid ((rdF_kept H.out HG4.out HSr.out.2))
      have hsz3 := HG3.out.size
      have HF4 := Lib.hid (hF4.rd.sub (S' := S) fun b _ hb => HSr.out.1 b (Nat.le_trans hsz3 hb))
      obtain ⟨a4, c4, rfl⟩ := hF4.slice
      clear hF4 hb4 HG3 hR3
      by_cases hap : AppArgs F wn (lst3 g) m2 m3
      · rw [jaB_t hap]
        have HX : Hid (JV (jaF F wn (lst3 g) m2 m3)) := by
          show JV _
          obtain ⟨p1, p2, p3, p4, p5, p6, p7⟩ := hap
          rw [jaF_t ⟨p1, p2, p3, p4, p5, p6, p7⟩, Int.toNat_natCast]
          rw [Int.toNat_natCast] at p6
          exact JV_app p1 hwn p6 (newc_ok p1 hwn (kf_knw p7) (kf_own _ _ _) p4 p5)
        clear hap
        go_wp2
        go_ret
        exact ⟨_, _, rfl, HX.out, HF4.out, HR4.out, HG4.out⟩
      · rw [jaB_f hap]
        clear hap
        go_wp2
        go_ret
        exact ⟨_, F, rfl, HJ.out, HRF.out, HR4.out, HG4.out⟩
theorem JV_none : JV [[], [], []] := by
  refine ⟨rfl, fun w hw => ?_, fun w hw i hi => ?_, fun w hw i hi => ?_⟩
  all_goals obtain rfl | rfl | rfl : w = 0 ∨ w = 1 ∨ w = 2 := by omega
  all_goals first | exact Nat.zero_le _ | exact absurd hi (Nat.not_lt_zero _)
set_option maxHeartbeats 3200000 in
theorem l92Join_c (B r P : Nat) (W : World) (hR : Reader B W r P) (hP : P ≤ 4294966000) :
    Calls Try.prog 34 #[.pointer (some ⟨r, 0, none⟩)] W (StepPost (fun b => W.heap.size ≤ b) B r (P + 400) W) := by
  have hrB := hR.1
  have hBW := hR.2.1
  have hrW : r < W.heap.size := Nat.lt_of_lt_of_le hrB hBW
  obtain ⟨w1, hw1⟩ : ∃ w1, w1 = (((W.alloc (.cells #[] 32)).alloc (.cells #[] 32)).alloc (.cells #[] 32)).alloc (.cells #[.slice (some ⟨W.heap.size, 0, none⟩) 0 0, .slice (some ⟨W.heap.size + 1, 0, none⟩) 0 0, .slice (some ⟨W.heap.size + 2, 0, none⟩) 0 0] 30) := ⟨_, rfl⟩
  have hb1 : Below W.heap.size W w1 := by rw [hw1]; (repeat' (first | exact Below.refl _ _ | assumption | refine Below.drew ?_ | refine below_drewN ?_ _ | refine Below.alloc ?_ (by omega) _ | refine Below.alloc ?_ (by simp; omega) _ | refine Below.alloc ?_ (by simp) _ | refine Below.setCell ?_ (by omega) _ | refine Below.setCell ?_ (by simp; omega) _ | refine Below.setCell ?_ (by simp) _))
  have HF1 : Hid (RdF (fun b => W.heap.size ≤ b) w1 (.slice (some ⟨W.heap.size + 3, 0, none⟩) 3 3) [[], [], []]) := by
    refine ⟨.inr ⟨_, _, _, rfl⟩, _, 3, rfl, Nat.le_refl _, by simp [maxLen], fun _ => ⟨W.heap.size + 3, 0, rfl, fun j hj => ?_⟩⟩
    have row : ∀ b, RdR (fun b => W.heap.size ≤ b) w1 (.slice (some ⟨b, 0, none⟩) 0 0) [] := fun b => ⟨.inr ⟨_, _, _, rfl⟩, _, 0, rfl, Nat.le_refl _, by simp [maxLen], fun h => absurd rfl h⟩
    have hj : j < 3 := hj
    obtain ⟨W3, hW3⟩ : ∃ W3, W3 = ((W.alloc (.cells #[] 32)).alloc (.cells #[] 32)).alloc (.cells #[] 32) := ⟨_, rfl⟩
    have hs3 : W3.heap.size = W.heap.size + 3 := by rw [hW3]; simp
    obtain rfl | rfl | rfl : j = 0 ∨ j = 1 ∨ j = 2 := by omega
    · exact ⟨.slice (some ⟨W.heap.size, 0, none⟩) 0 0, ⟨by omega, by rw [hw1, ← hW3, ← hs3]; simp⟩, row _⟩
    · exact ⟨.slice (some ⟨W.heap.size + 1, 0, none⟩) 0 0, ⟨by omega, by rw [hw1, ← hW3, ← hs3]; simp⟩, row _⟩
    · exact ⟨.slice (some ⟨W.heap.size + 2, 0, none⟩) 0 0, ⟨by omega, by rw [hw1, ← hW3, ← hs3]; simp⟩, row _⟩
  have HR1 := Lib.hid (hR.below hb1)
  have HG1 := Lib.hid (below_grown hb1 (some r))
  have HW1 := Lib.hid hw1
  clear hw1 hR hb1
  go_enter Try.func34, Try.ntmps34
  go_wp2_with fail
  rw [← HW1.out]
  refine (pick_c B r _ 18 _ HR1.out (by omega)).mono ?_
  rintro e w2 ⟨m, rfl, hm0, hm1, hR2, hg2⟩
  obtain ⟨n, rfl⟩ := Int.eq_ofNat_of_zero_le hm0
  have hn : n < 18 := by have := hm1 (by omega); omega
  have HF2 := Lib.hid (rdF_kept HF1.out hg2 (show ¬ W.heap.size ≤ r by omega))
  have HR2 := Lib.hid hR2
  have HG2 := Lib.hid (grown_trans HG1.out hg2)
  clear hm0 hm1 hR2 hg2 HF1 HR1 HG1
  go_wp2
  go_loopw [3, 5] (fun o i' wr => ∃ (k : Nat) (F : Fd), k ≤ n ∧ i' = .int .i64 k ∧ Hid (JV F) ∧ Hid (RdF (fun b => W.heap.size ≤ b) wr o F) ∧ Hid (Reader B wr r (P + 1 + 16 * k)) ∧ Hid (W.grownBy wr (some r))) (fun _ i' _ => n - (intOf i').toNat)
  case atStart => exact ⟨0, [[], [], []], by omega, rfl, JV_none, HF2, HR2, HG2⟩
  case round =>
    clear HF2 HR2 HG2
    obtain ⟨k, F, hk, rfl, HJ, HF, HR, HG⟩ := hrel
    by_cases hlt : k < n
    · have hsz := HG.out.size
      go_wp2_with fail
      refine (l92Step_c (S := fun b => W.heap.size ≤ b) B r _ F _ _ HR.out (by omega) HF.out HJ.out (fun b hb => Nat.le_trans hsz hb) (by omega)).mono ?_
      rintro e w3 ⟨v3, F3, rfl, hj3, hF3, hR3, hg3⟩
      have HJ3 := Lib.hid hj3
      have HF3 := Lib.hid hF3
      have HR3 := Lib.hid (hR3.le (P' := P + 1 + 16 * (k + 1)) (by omega))
      have HG3 := Lib.hid (grown_trans HG.out hg3)
      clear hj3 hF3 hR3 hg3 HJ HF HR HG
      go_wp2
      go_roundw
      case rel => exact ⟨k + 1, F3, by omega, by go_num, HJ3, HF3, HR3, HG3⟩
      case measure => simp [intOf]; omega
    · obtain rfl : k = n := by omega
      have HR' := Lib.hid (HR.out.le (P' := P + 400) (by omega))
      go_wp2
      go_ret
      exact ⟨_, F, rfl, HJ.out, HF.out, HR'.out, HG.out⟩
end Go.Proofs.Ythnepmhkeceadaa
