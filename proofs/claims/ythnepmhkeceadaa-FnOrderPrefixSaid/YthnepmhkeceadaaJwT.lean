/- Walks: whether entries are the same (of the same); the draw of JoinAppend's arguments. -/
import Derived.Test.YthnepmhkeceadaaJwR
import Derived.Test.YthnepmhkeceadaaEq
import Derived.Test.YthnepmhkeceadaaSub
import Derived.Test.YthnepmhkeceadaaJwP
namespace Go.Proofs.Ythnepmhkeceadaa
open Go.RowKit
theorem RdF.len {S : Nat → Prop} {w : World} {v : Value} {F : Fd} (h : RdF S w v F) : ∃ a m cap, v = .slice a m cap ∧ m = F.length ∧ m ≤ cap ∧ cap ≤ maxLen := by
  obtain ⟨a, cap, rfl, h1, h2⟩ := h.shape
  exact ⟨a, _, cap, rfl, rfl, h1, h2⟩
theorem rd_of_rds {S : Nat → Prop} {w : World} {v : Value} {n : Nat} {flat : List Value} (h : RdS S 1 w v n flat) : Rd 1 w v n flat := h.rd
set_option maxRecDepth 100000 in
set_option maxHeartbeats 3200000 in
theorem sameEntries_c {S S' : Nat → Prop} (va vb : Value) (F : Fd) (w : World) (ha : RdF S w va F) (hb : RdF S' w vb F) :
    Calls Try.prog 14 #[va, vb] w fun e w' => e = .returned (.bool true) ∧ Below w.heap.size w w' := by
  have HA := Lib.hid ha
  have HB := Lib.hid hb
  obtain ⟨a1, m, c1, rfl, hm1, h1, h2⟩ := ha.len
  obtain ⟨a2, m', c2, rfl, hm2, h3, h4⟩ := hb.len
  obtain rfl : m = m' := hm1.trans hm2.symm
  have HM := Lib.hid hm1
  unfold maxLen at h2 h4
  clear ha hb hm1 hm2
  go_enter Try.func14, Try.ntmps14
  go_wp2
  go_loopw [5] (fun j' wr => ∃ j : Nat, j ≤ m ∧ j' = .int .i64 j ∧ Hid (Below w.heap.size w wr)) (fun j' _ => m - (intOf j').toNat)
  case atStart => exact ⟨0, Nat.zero_le _, rfl, Below.refl _ _⟩
  case round =>
    obtain ⟨j, hj, rfl, HBj⟩ := hrel
    by_cases hlt : j < m
    · have hlt' : (j : Int) < (m : Int) := by omega
      obtain ⟨b5, o5, c5, a6, c6, ev, -, -, q5, q6, q7, qa⟩ := HA.out.feed (j := j) (by rw [← HM.out]; exact hlt)
      obtain ⟨b7, o7, c7, a8, c8, ev2, -, -, r5, r6, r7, ra⟩ := HB.out.feed (j := j) (by rw [← HM.out]; exact hlt)
      simp only [Value.slice.injEq] at ev ev2
      obtain ⟨rfl, -, rfl⟩ := ev
      obtain ⟨rfl, -, rfl⟩ := ev2
      unfold maxLen at q7 r7
      obtain ⟨L, hL⟩ : ∃ L, ln F j = L := ⟨_, rfl⟩
      rw [hL] at q5 q6 qa r5 r6 ra
      have HL := Lib.hid hL
      have QA := Lib.hid qa
      have RA := Lib.hid ra
      have Q := Lib.hid (And.intro q5 r5)
      have q5 := cell_keep HBj.out q5
      have r5 := cell_keep HBj.out r5
      clear hL qa ra
      go_wp2
      go_quiet (fail)
      obtain ⟨w7, hw7⟩ : ∃ w7, w7 = wr.drewN nq := ⟨_, rfl⟩
      have hb7 : Below wr.heap.size wr w7 := by rw [hw7]; (repeat' (first | exact Below.refl _ _ | assumption | refine Below.drew ?_ | refine below_drewN ?_ _ | refine Below.alloc ?_ (by omega) _ | refine Below.alloc ?_ (by simp; omega) _ | refine Below.alloc ?_ (by simp) _ | refine Below.setCell ?_ (by omega) _ | refine Below.setCell ?_ (by simp; omega) _ | refine Below.setCell ?_ (by simp) _))
      rw [← hw7]
      have HB7 := Lib.hid (HBj.out.trans (hb7.mono HBj.out.size))
      clear hw7 hb7 q5 r5
      go_wp2
      go_loopw [6] (fun i' wr => ∃ i : Nat, i ≤ L ∧ i' = .int .i64 i ∧ Hid (Below w7.heap.size w7 wr)) (fun i' _ => L - (intOf i').toNat)
      case atStart => exact ⟨0, Nat.zero_le _, rfl, Below.refl _ _⟩
      case round =>
        obtain ⟨i, hi, rfl, HBi⟩ := hrel
        obtain ⟨wo, rfl⟩ : ∃ wo : World, wo = wr := ⟨_, rfl⟩
        have HBW := Lib.hid (HB7.out.trans (HBi.out.mono HB7.out.size))
        have q5 := cell_keep HBW.out Q.out.1
        have r5 := cell_keep HBW.out Q.out.2
        by_cases hil : i < L
        · have hil' : (i : Int) < (L : Int) := by omega
          obtain ⟨b8, o8, e, aB, cB, rfl, he, d2, d3, d4, hrr⟩ := (QA.out.below HBW.out).entry hil
          obtain ⟨b9, o9, e', aC, cC, rfl, he', f2, f3, f4, hss⟩ := (RA.out.below HBW.out).entry hil
          obtain rfl : e = e' := he.trans he'.symm
          obtain ⟨c, key, val⟩ := e
          simp only [] at d2 d3 d4 hrr f2 f3 f4 hss
          have HRR := Lib.hid hrr
          have HSS := Lib.hid hss
          have z0 := fun (x : Sub wo) => x.cell q5
          have z1 := fun (x : Sub wo) => x.cell r5
          have z2 := fun (x : Sub wo) => x.cell d2
          have z3 := fun (x : Sub wo) => x.cell d3
          have z4 := fun (x : Sub wo) => x.cell d4
          have z5 := fun (x : Sub wo) => x.cell f2
          have z6 := fun (x : Sub wo) => x.cell f3
          have z7 := fun (x : Sub wo) => x.cell f4
          clear d2 d3 d4 f2 f3 f4 hrr hss he he'
          go_wp2
          refine wp_region_sub (by kernel_rfl) (by kernel_rfl) ?_
          repeat (go_big_quiet_step (exact Calls.sub (v := .bool true) (fun w hb => sameInts_c _ _ c w (HRR.out.below hb).rd (HSS.out.below hb).rd)))
          refine wpQuiet_nil ?_
          rintro _ ⟨xs, rfl⟩
          have HX := Lib.hid (HBi.out.trans (xs.b.mono HBi.out.size))
          go_wp2
          go_roundw
          case rel => exact ⟨i + 1, by omega, by go_num, HX⟩
          case measure => simp [intOf]; omega
        · obtain rfl : i = L := by omega
          go_wp2
          go_roundw
          case rel => exact ⟨j + 1, by omega, by go_num, HBW⟩
          case measure => simp [intOf]; omega
    · obtain rfl : j = m := by omega
      go_wp2
      go_ret
      exact ⟨rfl, HBj.out⟩
end Go.Proofs.Ythnepmhkeceadaa
