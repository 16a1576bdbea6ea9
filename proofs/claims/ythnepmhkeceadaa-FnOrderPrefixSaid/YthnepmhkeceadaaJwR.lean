/- Walks: whether a further entry is allowed (the program). -/
import Derived.Test.YthnepmhkeceadaaJwQ
namespace Go.Proofs.Ythnepmhkeceadaa
open Go.RowKit
def RetB (b : Bool) (W : World) (e : Ending) (W' : World) : Prop := e = .returned (.bool b) ∧ Below W.heap.size W W'
theorem RetB.of {b c : Bool} {W W' : World} (h : c = b) (hb : Below W.heap.size W W') : RetB b W (.returned (.bool c)) W' := by subst h; exact ⟨rfl, hb⟩
set_option maxHeartbeats 3200000 in
theorem canAppend_c {S S' : Nat → Prop} (F : Fd) (fv : Value) (w : Int) (kv : Value) (ks : List Int) (n : Nat) (key val : Int) (W : World) (h : RdF S W fv F) (hk : RdS S' 1 W kv n (enc1 ks)) (hkn : ks.length = n) :
    Calls Try.prog 36 #[fv, .int .i64 w, kv, .int .i64 key, .int .i64 val] W (RetB (jaB F w ks key val) W) := by
  have H := Lib.hid h
  have HK := Lib.hid hk
  have HKN := Lib.hid hkn
  obtain ⟨ak, capk, rfl, n1, n2⟩ := hk.shape
  obtain ⟨a0, m0, cap0, rfl, hm0, m1, m2⟩ : ∃ a m cap, fv = .slice a m cap ∧ m = F.length ∧ m ≤ cap ∧ cap ≤ maxLen := by
    obtain ⟨a, cap, rfl, h1, h2⟩ := h.shape
    exact ⟨a, _, cap, rfl, rfl, h1, h2⟩
  unfold maxLen at n2 m2
  have HM := Lib.hid hm0
  obtain ⟨b, hb⟩ : ∃ b, jaB F w ks key val = b := ⟨_, rfl⟩
  rw [hb]
  have HB := Lib.hid hb
  have NO : Hid (¬ AppArgs F w ks key val → false = b) := fun hh => by rw [← hb, jaB_f hh]
  have YES : Hid (AppArgs F w ks key val → true = b) := fun hh => by rw [← hb, jaB_t hh]
  clear h hk hkn hm0 hb
  go_enter Try.func36, Try.ntmps36
  go_wp2_with fail
  refine (joinValid_c F _ _ H.out).mono ?_
  rintro e w1 ⟨rfl, hb1⟩
  have HB1 := Lib.hid hb1
  clear hb1
  by_cases hj : JV F
  · rw [jvB_t hj]
    have HJ := Lib.hid hj
    clear hj
    by_cases hw : 0 ≤ w ∧ w ≤ 2
    · obtain ⟨x1, x2⟩ := hw
      go_wp2_with fail
      refine (within_t w 0 2 _ x1 x2).mono ?_
      rintro e _ ⟨rfl, rfl⟩
      obtain ⟨u, rfl⟩ := Int.eq_ofNat_of_zero_le x1
      have hu3 : u < 3 := by omega
      by_cases h3 : n = 3
      · subst h3
        by_cases hkey : 0 ≤ key ∧ key ≤ 9
        · obtain ⟨y1, y2⟩ := hkey
          go_wp2_with fail
          refine (within_t key 0 9 _ y1 y2).mono ?_
          rintro e _ ⟨rfl, rfl⟩
          by_cases hval : 0 ≤ val ∧ val ≤ 99
          · obtain ⟨z1, z2⟩ := hval
            go_wp2_with fail
            refine (within_t val 0 99 _ z1 z2).mono ?_
            rintro e _ ⟨rfl, rfl⟩
            have hm3 : m0 = 3 := HM.out.trans HJ.out.1
            subst hm3
            have HP : Hid ((∀ v, v < 3 → 0 ≤ ks.getD v 0 ∧ ks.getD v 0 ≤ (ln F v : Int)) → ln F u < 8 → AppArgs F u ks key val) := fun h1 h2 => ⟨HJ.out, ⟨x1, x2⟩, HKN.out, ⟨y1, y2⟩, ⟨z1, z2⟩, by simpa using h2, h1⟩
            have hu3' : (u : Int) < 3 := by omega
            clear x1 x2 y1 y2 z1 z2
            go_wp2
            go_loopw [38] (fun i' wr => ∃ v : Nat, v ≤ 3 ∧ i' = .int .i64 v ∧ Hid (Below w1.heap.size w1 wr) ∧ Hid (∀ u, u < v → 0 ≤ ks.getD u 0 ∧ ks.getD u 0 ≤ (ln F u : Int))) (fun i' _ => 3 - (intOf i').toNat)
            case atStart => exact ⟨0, by omega, rfl, Below.refl _ _, fun u hu => absurd hu (Nat.not_lt_zero _)⟩
            case round =>
              obtain ⟨v, hv, rfl, HBr, HN⟩ := hrel
              have HBW := Lib.hid (HB1.out.trans (HBr.out.mono HB1.out.size))
              by_cases hlt : v < 3
              · have hlt' : (v : Int) < 3 := by omega
                obtain ⟨b9, o9, c9, y, ev, -, -, q9, HY⟩ := HK.out.num2 HKN.out hlt
                simp only [Value.slice.injEq] at ev
                obtain ⟨rfl, -, rfl⟩ := ev
                have q9 := cell_keep HBW.out q9
                obtain ⟨b6, o6, c6', a7, c7, ev, -, -, q5, q6', q7', -⟩ := (H.out.below HBW.out).feed (j := v) (by rw [HJ.out.1]; exact hlt)
                rw [HJ.out.1] at ev
                simp only [Value.slice.injEq, Option.some.injEq, Addr.mk.injEq, and_true] at ev
                obtain ⟨rfl, -, rfl⟩ := ev
                unfold maxLen at q7'
                obtain ⟨L, hL⟩ : ∃ L, ln F v = L := ⟨_, rfl⟩
                rw [hL] at q5 q6'
                have HL := Lib.hid hL
                clear hL
                by_cases hy : 0 ≤ y ∧ y ≤ (L : Int)
                · obtain ⟨k1, k2⟩ := hy
                  have HN' : Hid (∀ u, u < v + 1 → 0 ≤ ks.getD u 0 ∧ ks.getD u 0 ≤ (ln F u : Int)) := fun u hu => by
                    by_cases e : u = v
                    · subst e; rw [HY.out, HL.out]; exact ⟨k1, k2⟩
                    · exact HN.out u (by omega)
                  go_wp2_with fail
                  refine (within_t y 0 L _ k1 k2).mono ?_
                  rintro e _ ⟨rfl, rfl⟩
                  go_wp2
                  go_roundw
                  case rel => exact ⟨v + 1, by omega, by go_num, HBr, HN'⟩
                  case measure => simp [intOf]; omega
                · have hy' : y < 0 ∨ (L : Int) < y := by omega
                  have NO' := Lib.hid (NO.out fun hh => by have := hh.2.2.2.2.2.2 v hlt; rw [HY.out, HL.out] at this; exact hy this)
                  clear hy
                  go_wp2_with fail
                  refine (within_f y 0 L _ hy').mono ?_
                  rintro e _ ⟨rfl, rfl⟩
                  clear hy'
                  go_wp2
                  go_ret
                  exact RetB.of NO'.out HBW.out
              · obtain rfl : v = 3 := by omega
                obtain ⟨b6, o6, c6', a7, c7, ev, -, -, q5, q6', q7', -⟩ := (H.out.below HBW.out).feed (j := u) (by rw [HJ.out.1]; exact hu3)
                rw [HJ.out.1] at ev
                simp only [Value.slice.injEq, Option.some.injEq, Addr.mk.injEq, and_true] at ev
                obtain ⟨rfl, -, rfl⟩ := ev
                unfold maxLen at q7'
                obtain ⟨L, hL⟩ : ∃ L, ln F u = L := ⟨_, rfl⟩
                rw [hL] at q5 q6'
                have HL := Lib.hid hL
                clear hL
                by_cases h8 : L < 8
                · have h8' : (L : Int) < 8 := by omega
                  have Y' := Lib.hid (YES.out (HP.out HN.out (by rw [HL.out]; exact h8)))
                  go_wp2
                  go_ret
                  exact RetB.of (by first | exact Y'.out | (simp; exact Y'.out)) HBW.out
                · have h8' : ¬ ((L : Int) < 8) := by omega
                  have Y' := Lib.hid (NO.out (fun hh => by have := hh.2.2.2.2.2.1; simp at this; rw [HL.out] at this; exact h8 this))
                  go_wp2
                  go_ret
                  exact RetB.of (by first | exact Y'.out | (simp; exact Y'.out)) HBW.out
          · have hv' : val < 0 ∨ 99 < val := by omega
            have NO' := Lib.hid (NO.out fun hh => hval hh.2.2.2.2.1)
            clear hval
            go_wp2_with fail
            refine (within_f val 0 99 _ hv').mono ?_
            rintro e _ ⟨rfl, rfl⟩
            clear hv'
            go_wp2
            go_ret
            exact RetB.of NO'.out HB1.out
        · have hv' : key < 0 ∨ 9 < key := by omega
          have NO' := Lib.hid (NO.out fun hh => hkey hh.2.2.2.1)
          clear hkey
          go_wp2_with fail
          refine (within_f key 0 9 _ hv').mono ?_
          rintro e _ ⟨rfl, rfl⟩
          clear hv'
          go_wp2
          go_ret
          exact RetB.of NO'.out HB1.out
      · have e3 : ((n : Int) == 3) = false := by rw [beq_eq_false_iff_ne]; omega
        have e3' : ((n : Int) != 3) = true := by simp; omega
        have NO' := Lib.hid (NO.out fun hh => h3 (HKN.out.symm.trans hh.2.2.1))
        clear h3
        go_wp2
        go_ret
        exact RetB.of NO'.out HB1.out
    · have hv' : w < 0 ∨ 2 < w := by omega
      have NO' := Lib.hid (NO.out fun hh => hw hh.2.1)
      clear hw
      go_wp2_with fail
      refine (within_f w 0 2 _ hv').mono ?_
      rintro e _ ⟨rfl, rfl⟩
      clear hv'
      go_wp2
      go_ret
      exact RetB.of NO'.out HB1.out
  · rw [jvB_f hj]
    have NO' := Lib.hid (NO.out fun hh => hj hh.1)
    clear hj
    go_wp2
    go_ret
    exact RetB.of NO'.out HB1.out
end Go.Proofs.Ythnepmhkeceadaa
