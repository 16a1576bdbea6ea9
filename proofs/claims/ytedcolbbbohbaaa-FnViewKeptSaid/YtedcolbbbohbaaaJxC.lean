/- The draw of entries and a number; views that are the same. -/
import Derived.Test.YtedcolbbbohbaaaJwX
import Derived.Test.YtedcolbbbohbaaaShF
namespace Go.Proofs.Ytedcolbbbohbaaa
open Go.RowKit
set_option maxRecDepth 100000 in
set_option maxHeartbeats 3200000 in
theorem drawViewAt_c (v : Value) (n : Nat) (w : World) (h : RdB w v n) : Calls Try.prog 25 #[v] w (DrFN w) := by
  go_enter Try.func25, Try.ntmps25
  go_wp2_with fail
  refine (l6Open_c _ n _ h).mono ?_
  rintro e w1 ⟨r, rfl, hr, hR, hb1⟩
  clear h
  go_wp2_with fail
  refine (l92Join_c _ r 0 _ hR (by omega)).mono ?_
  rintro e w2 ⟨v2, F2, rfl, hj, hF2, hR2, hg2⟩
  have hb2 := below_r hb1 hg2 hr
  clear hR hg2
  go_wp2_with fail
  refine (l92Bent_c _ r _ F2 _ _ hR2 (by omega) hF2 hj).mono ?_
  rintro e w3 ⟨v3, F3, rfl, hF3, h8, h3, -, hR3, hg3⟩
  obtain ⟨B, P, hP, hR3⟩ : ∃ B P, P ≤ 4294960000 ∧ Reader B w3 r P := ⟨_, _, by omega, hR3⟩
  have hb3 := below_r hb2 hg3 hr
  have hrw3 : r < w3.heap.size := Nat.lt_of_lt_of_le hR3.1 hR3.2.1
  have hrw2 : r < w2.heap.size := Nat.lt_of_lt_of_le hR2.1 hR2.2.1
  have T := Lib.hid hb3
  have HRW := Lib.hid hr
  obtain ⟨a0, m0, cap0, rfl, hm0, q1, q2⟩ : ∃ a m cap, v3 = .slice a m cap ∧ m = F3.length ∧ m ≤ cap ∧ cap ≤ maxLen := by
    obtain ⟨a, cap, rfl, h1, h2⟩ := hF3.shape; exact ⟨a, _, cap, rfl, rfl, h1, h2⟩
  unfold maxLen at q2
  have HF := Lib.hid hF3
  have H8 := Lib.hid h8
  have HM := Lib.hid hm0
  have hm3 : m0 ≤ 3 := by omega
  have HR := Lib.hid hR3
  clear hg3 hb2 hb3 hR2 hF2 hF3 hj hb1 h8 h3 hm0 hR3
  go_wp2
  go_loopw [6, 7] (fun s' v' wr => ∃ k s : Nat, k ≤ m0 ∧ s ≤ 8 * k ∧ s' = .int .i64 s ∧ v' = .int .i64 k ∧ wr = w3) (fun _ v' _ => m0 - (intOf v').toNat)
  case atStart => exact ⟨0, 0, Nat.zero_le _, Nat.le_refl _, rfl, rfl, rfl⟩
  case round =>
    obtain ⟨k, s, hk, hs, rfl, rfl, rfl⟩ := hrel
    by_cases hlt : k < m0
    · have hlt' : (k : Int) < (m0 : Int) := by omega
      obtain ⟨b5, o5, c5, a6, c6, ev, -, -, q5, q6, q7, -⟩ := HF.out.feed (j := k) (by rw [← HM.out]; exact hlt)
      simp only [Value.slice.injEq] at ev
      obtain ⟨rfl, -, rfl⟩ := ev
      unfold maxLen at q7
      have hL8 := H8.out k
      obtain ⟨L, hL⟩ : ∃ L, ln F3 k = L := ⟨_, rfl⟩
      rw [hL] at q5 q6 hL8
      have hsw : IntKind.i64.wrap ((s : Int) + (L : Int)) = ((s + L : Nat) : Int) := by rw [IntKind.wrap_i64]; omega
      clear hL
      go_wp2
      go_roundw
      case rel => first | exact ⟨k + 1, s + L, by omega, by omega, by go_num, by go_num, trivial⟩ | exact ⟨k + 1, s + L, by omega, by omega, by go_num, by go_num, rfl⟩
      case measure => simp [intOf]; omega
    · have hs24 : s ≤ 24 := by omega
      have hsw : IntKind.i64.wrap ((s : Int) + 1) = (s : Int) + 1 := by rw [IntKind.wrap_i64]; omega
      clear hs
      go_wp2_with fail
      refine (pick_c B r P ((s : Int) + 1) _ HR.out (by omega)).mono ?_
      rintro e w4 ⟨m1, rfl, hm10, hm11, hR4, hg4⟩
      have hm11 := hm11 (by omega)
      go_wp2_with fail
      refine (pick_c B r _ 16 _ hR4 (by omega)).mono ?_
      rintro e w5 ⟨m2, rfl, hm20, hm21, hR5, hg5⟩
      have hm21 := hm21 (by omega)
      have hg5' := grown_trans hg4 hg5
      obtain ⟨q, hq⟩ : ∃ q, m2 / 15 = q := ⟨_, rfl⟩
      have hq0 : q = 0 ∨ q = 1 := by omega
      clear hg4 hg5 hR4
      go_wp2_with fail
      refine (pick_c B r _ 3 _ hR5 (by omega)).mono ?_
      rintro e w6 ⟨m3, rfl, hm30, hm31, hR6, hg6⟩
      have hm31 := hm31 (by omega)
      have HG := Lib.hid (grown_trans hg5' hg6)
      have HFz := Lib.hid (rdF_kept HF.out HG.out (by show ¬ (_ ≤ r); omega))
      obtain ⟨d, hd⟩ : ∃ d, m3 - 1 = d := ⟨_, rfl⟩
      have hdw : wrap64 d = d := by unfold wrap64; omega
      obtain ⟨p, hp⟩ : ∃ p, q * d = p := ⟨_, rfl⟩
      have hp1 : -1 ≤ p ∧ p ≤ 1 := by rcases hq0 with rfl | rfl <;> simp at hp <;> omega
      have hpw : wrap64 p = p := by unfold wrap64; omega
      obtain ⟨t, ht⟩ : ∃ t, p * (s : Int) = t := ⟨_, rfl⟩
      have ht1 : -24 ≤ t ∧ t ≤ 24 := by
        have h3 : p = -1 ∨ p = 0 ∨ p = 1 := by omega
        rcases h3 with rfl | rfl | rfl <;> simp at ht <;> omega
      have htw : wrap64 t = t := by unfold wrap64; omega
      have hmt : wrap64 (m1 + t) = m1 + t := by unfold wrap64; omega
      have HX : Hid (-100 ≤ m1 + t ∧ m1 + t ≤ 100) := by show _ ∧ _; omega
      clear hg5' hg6 hR5 hR6 hq0 hm10 hm11 hm20 hm21 hm30 hm31 hp1 ht1
      go_wp2
      refine bodyPost_ret (v := .tuple #[.slice a0 m0 cap0, .int .i64 (m1 + t)]) (by simp [results, Try.results25, go_sem, hdw, hp, hpw, ht, htw, hmt]) rfl ?_
      exact ⟨_, F3, _, rfl, HFz.out.all, below_r T.out HG.out HRW.out, HX.out.1, HX.out.2⟩
theorem samePairs_c (va vb : Value) (xs : List P2) (w : World) (ha : Rd 2 w va xs.length (enc2 xs)) (hb : Rd 2 w vb xs.length (enc2 xs)) :
    Calls Try.prog 28 #[va, vb] w fun e w' => e = .returned (.bool true) ∧ Below w.heap.size w w' := by
  obtain ⟨-, a1, c1, rfl, h1, m1, k1⟩ := ha
  obtain ⟨-, a2, c2, rfl, h2, m2, k2⟩ := hb
  unfold maxLen at m1 m2
  go_enter Try.func28, Try.ntmps28
  go_wp2
  go_loopw [5] (fun i wr => ∃ k : Nat, k ≤ xs.length ∧ i = .int .i64 k ∧ Below w.heap.size w wr) (fun i _ => xs.length - (intOf i).toNat)
  case atStart => exact ⟨0, Nat.zero_le _, rfl, Below.refl _ _⟩
  case round =>
    obtain ⟨k, hk, rfl, hb⟩ := hrel
    have hsz := hb.size
    by_cases hlt : k < xs.length
    · obtain ⟨b1, o1, rfl, g1⟩ := k1 (by omega)
      obtain ⟨b2, o2, rfl, g2⟩ := k2 (by omega)
      obtain ⟨x, y, e1, u1, u2⟩ := at2 hb g1 k hlt
      obtain ⟨x', y', e2, u3, u4⟩ := at2 hb g2 k hlt
      obtain ⟨rfl, rfl⟩ := Prod.mk.inj (e1.symm.trans e2)
      clear e1 e2 k1 k2 g1 g2
      go_wp2
      go_quiet (fail)
      go_wp2
      go_roundw
      case rel => exact ⟨k + 1, by omega, by go_num, below_drewN hb _⟩
      case measure => simp [intOf]; omega
    · go_wp2
      go_ret
      exact ⟨rfl, hb⟩
end Go.Proofs.Ytedcolbbbohbaaa
