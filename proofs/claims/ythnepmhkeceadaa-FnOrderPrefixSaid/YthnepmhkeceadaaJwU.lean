/- The draw of JoinAppend's arguments. -/
import Derived.Test.YthnepmhkeceadaaJwT
namespace Go.Proofs.Ythnepmhkeceadaa
open Go.RowKit
theorem grown_own2 {w w1 w2 : World} {r e sz n : Nat} {v : Value} {xs : List Value} (h : w.grownBy w1 (some r)) (ho : w1.ownsRow w.heap.size e sz v n xs) (hg : w1.grownBy w2 v.ownBlock) : w.grownBy w2 (some r) :=
  ⟨hg.os.trans h.os, hg.tape.trans h.tape, hg.output.trans h.output, Nat.le_trans h.size hg.size, fun k hk hne => (hg.block k (Nat.lt_of_lt_of_le hk h.size) (fun e => by have := (ho.lt k e.symm).1; omega)).trans (h.block k hk hne)⟩
/-- entries and what a further one is to hold -/
def DrJA (w : World) (e : Ending) (w' : World) : Prop :=
  ∃ (v : Value) (F : Fd) (x : Int) (kv : Value) (ks : List Int) (key val : Int), e = .returned (.tuple #[v, .int .i64 x, kv, .int .i64 key, .int .i64 val]) ∧ RdF All w' v F ∧ RdS All 1 w' kv ks.length (enc1 ks) ∧ Below w.heap.size w w'
set_option maxRecDepth 100000 in
set_option maxHeartbeats 3200000 in
theorem drawJoinAppend_c (v : Value) (n : Nat) (w : World) (h : RdB w v n) : Calls Try.prog 11 #[v] w (DrJA w) := by
  go_enter Try.func11, Try.ntmps11
  go_wp2_with fail
  refine (l6Open_c _ n _ h).mono ?_
  rintro e w1 ⟨r, rfl, hr, hR, hb1⟩
  clear h
  go_wp2_with fail
  refine (l92Join_c _ r 0 _ hR (by omega)).mono ?_
  rintro e w2 ⟨v2, F2, rfl, hj, hF2, hR2, hg2⟩
  have hb2 := below_r hb1 hg2 hr
  have hz12 := hg2.size
  have hrw2 : r < w2.heap.size := Nat.lt_of_lt_of_le hR2.1 hR2.2.1
  clear hR hg2
  go_wp2_with fail
  refine (l92Bent_c _ r _ F2 _ _ hR2 (by omega) hF2 hj).mono ?_
  rintro e w3 ⟨v3, F3, rfl, hF3, h8, h3, -, hR3, hg3⟩
  obtain ⟨B, P, hP, hR3⟩ : ∃ B P, P ≤ 4294960000 ∧ Reader B w3 r P := ⟨_, _, by omega, hR3⟩
  have hBw := hR3.2.1
  have hb3 := below_r hb2 hg3 hr
  have hrw3 : r < w3.heap.size := Nat.lt_of_lt_of_le hR3.1 hR3.2.1
  have T := Lib.hid hb3
  have HRW := Lib.hid hr
  obtain ⟨a0, m0, cap0, rfl, hm0, q1, q2⟩ := hF3.len
  unfold maxLen at q2
  have HF := Lib.hid hF3
  have H8 := Lib.hid h8
  have HM := Lib.hid hm0
  have hm3 : m0 ≤ 3 := by omega
  have hR0 := Lib.hid (hR3.below (w' := w3.alloc (.cells #[] 3)) ((Below.refl _ _).alloc (Nat.le_refl _) _))
  have hown0 := own_empty w3 w3.heap.size 3 1 (Nat.le_refl _)
  have hg0 : Hid (w3.grownBy (w3.alloc (.cells #[] 3)) (some r)) := below_grown ((Below.refl _ _).alloc (Nat.le_refl _) _) _
  clear hg3 hb2 hb3 hR2 hF2 hF3 hj hb1 h8 h3 hm0 hR3
  go_wp2
  go_loopw [9, 10] (fun o v' wr => ∃ (zs : List Int), zs.length ≤ m0 ∧ v' = .int .i64 (zs.length : Nat) ∧ wr.ownsRow w3.heap.size 3 1 o zs.length (enc1 zs) ∧ Hid (Reader B wr r (P + 2 * zs.length)) ∧ Hid (w3.grownBy wr (some r))) (fun _ v' _ => m0 - (intOf v').toNat)
  case atStart => exact ⟨[], Nat.zero_le _, rfl, hown0, hR0, hg0⟩
  case round =>
    clear hown0 hR0 hg0
    obtain ⟨zs, hk, rfl, hown, HR, HG⟩ := hrel
    obtain ⟨ao, co, rfl⟩ := own_slice hown
    have hne : ∀ b, (Value.slice ao zs.length co).ownBlock = some b → ¬ (some r = some b) := fun b hb e => by have := (hown.lt b hb).1; simp at e; omega
    have HFr := Lib.hid (rdF_kept HF.out HG.out (by show ¬ (_ ≤ r); omega))
    by_cases hlt : zs.length < m0
    · have hlt' : ((zs.length : Nat) : Int) < (m0 : Int) := by omega
      obtain ⟨b5, o5, c5, a6, c6, ev, -, -, q5, q6, q7, -⟩ := HFr.out.feed (j := zs.length) (by rw [← HM.out]; exact hlt)
      simp only [Value.slice.injEq] at ev
      obtain ⟨rfl, -, rfl⟩ := ev
      unfold maxLen at q7
      have hL8 := H8.out zs.length
      obtain ⟨L, hL⟩ : ∃ L, ln F3 zs.length = L := ⟨_, rfl⟩
      rw [hL] at q5 q6 hL8
      have hLw : IntKind.i64.wrap ((L : Int) + 1) = (L : Int) + 1 := by rw [IntKind.wrap_i64]; omega
      clear hL
      go_wp2_with fail
      refine (pick_c _ r _ ((L : Int) + 1) _ HR.out (by omega)).mono ?_
      rintro e w4 ⟨m1, rfl, hm10, hm11, hR4, hg4⟩
      have hm11 := hm11 (by omega)
      have HO4 := Lib.hid (own_chg hown (Chg.of_grown hg4) hne)
      have HG4 := Lib.hid (grown_trans HG.out hg4)
      clear hown hg4 q5
      go_wp2_with fail
      refine (pick_c _ r _ 24 _ hR4 (by omega)).mono ?_
      rintro e w5 ⟨m2, rfl, hm20, hm21, hR5, hg5⟩
      have hm21 := hm21 (by omega)
      have hown5 := own_chg HO4.out (Chg.of_grown hg5) hne
      have HG5 := Lib.hid (grown_trans HG4.out hg5)
      have hsz5 := HG5.out.size
      obtain ⟨q, hq⟩ : ∃ q, m2 / 23 = q := ⟨_, rfl⟩
      have hq0 : 0 ≤ q ∧ q ≤ 1 := by omega
      have hsw : IntKind.i64.wrap (m1 + q) = m1 + q := by rw [IntKind.wrap_i64]; omega
      have HR5 := Lib.hid hR5
      clear hg5 hR4 HO4 HG4 hm21 hm20 hm10 hm11
      go_wp2_with (at_builtin; refine wpList_app1 _ rfl _ _ 24 rfl w3.heap.size 3 Try.underlying24 info_int0 _ zs rfl hown5 (m1 + q) _ _ rfl (by omega) hsz5 ?_)
      intro v' w6 qs hqs hql hown6 hg6
      have hqk : qs.length = zs.length + 1 := by rw [hqs.out]; simp
      have HQ := Lib.hid hqk
      have HR6 : Hid (Reader B w6 r (P + 2 * qs.length)) := (HR5.out.kept hg6 (fun b hb => Nat.le_trans hBw (hown5.lt b hb).1)).le (by omega)
      have HG6 := Lib.hid (grown_own2 HG5.out hown5 hg6)
      clear hqs hqk hg6 hown5 hsz5
      go_wp2
      go_roundw
      case rel => exact ⟨qs, by have := HQ.out; omega, by have := HQ.out; go_num, hown6, HR6, HG6⟩
      case measure => have := HQ.out; simp [intOf]; omega
    · have hkm : zs.length = m0 := by omega
      have HO := Lib.hid hown
      clear hown hkm
      go_wp2_with fail
      refine (pick_c B r _ 3 _ HR.out (by omega)).mono ?_
      rintro e w4 ⟨m1, rfl, hm10, hm11, hR4, hg4⟩
      have hm11 := hm11 (by omega)
      have HO4 := Lib.hid (own_chg HO.out (Chg.of_grown hg4) hne)
      have HG4 := Lib.hid (grown_trans HG.out hg4)
      clear hg4
      go_wp2_with fail
      refine (pick_c B r _ 20 _ hR4 (by omega)).mono ?_
      rintro e w5 ⟨m2, rfl, hm20, hm21, hR5, hg5⟩
      have hm21 := hm21 (by omega)
      have HO5 := Lib.hid (own_chg HO4.out (Chg.of_grown hg5) hne)
      have HG5 := Lib.hid (grown_trans HG4.out hg5)
      obtain ⟨q, hq⟩ : ∃ q, m2 / 19 = q := ⟨_, rfl⟩
      have hq0 : 0 ≤ q ∧ q ≤ 1 := by omega
      have hsw : IntKind.i64.wrap (m1 + q) = m1 + q := by rw [IntKind.wrap_i64]; omega
      clear hg5 hR4 HO4 HG4 HO HG
      go_wp2_with fail
      refine (pick_c B r _ 10 _ hR5 (by omega)).mono ?_
      rintro e w6 ⟨m3, rfl, -, -, hR6, hg6⟩
      have HO6 := Lib.hid (own_chg HO5.out (Chg.of_grown hg6) hne)
      have HG6 := Lib.hid (grown_trans HG5.out hg6)
      clear hg6 hR5 HO5 HG5
      go_wp2_with fail
      refine (pick_c B r _ 101 _ hR6 (by omega)).mono ?_
      rintro e w7 ⟨m4, rfl, -, -, hR7, hg7⟩
      have HO7 := Lib.hid (own_chg HO6.out (Chg.of_grown hg7) hne)
      have HG7 := Lib.hid (grown_trans HG6.out hg7)
      clear hg7 hR6 HO6 HG6 hR7
      have HFz := Lib.hid (rdF_kept HF.out HG7.out (by show ¬ (_ ≤ r); omega))
      clear hm10 hm11 hm20 hm21 hq0
      go_wp2
      refine bodyPost_ret (v := .tuple #[.slice a0 m0 cap0, .int .i64 (m1 + q), .slice ao zs.length co, .int .i64 m3, .int .i64 m4]) (by simp [results, Try.results11, go_sem]) rfl ?_
      exact ⟨_, F3, _, _, zs, _, _, rfl, HFz.out.all, (RdS.of_own HO7.out).sub (fun _ _ _ => trivial), below_r T.out HG7.out HRW.out⟩
end Go.Proofs.Ythnepmhkeceadaa
