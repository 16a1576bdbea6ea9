/- Walks: whether a writer's next entry is ready; JoinOrder of the program. -/
import Derived.Test.YthnepmhkeceadaaJwF
import Derived.Maps.AppendAt
namespace Go.Proofs.Ythnepmhkeceadaa
open Go.RowKit
def tri (a b c : Nat) : Nat → Nat
  | 0 => a
  | 1 => b
  | _ => c
open Classical in
noncomputable def rdB (F : Fd) (p : Nat → Nat) (w : Nat) : Bool := decide (Rdy F p w)
theorem rdB_t {F : Fd} {p : Nat → Nat} {w : Nat} (h : Rdy F p w) : rdB F p w = true := by unfold rdB; simp [h]
theorem rdB_f {F : Fd} {p : Nat → Nat} {w : Nat} (h : ¬ Rdy F p w) : rdB F p w = false := by unfold rdB; simp [h]
theorem tri_p (p : Nat → Nat) (w : Nat) (hw : w < 3) : tri (p 0) (p 1) (p 2) w = p w := by
  obtain rfl | rfl | rfl : w = 0 ∨ w = 1 ∨ w = 2 := by omega
  all_goals rfl
set_option maxHeartbeats 1600000 in
theorem ready0_c {S : Nat → Prop} (F : Fd) (fv : Value) (p0 p1 p2 : Nat) (W : World) (h : RdF S W fv F) (hj : JV F) (hp : p0 ≤ ln F 0) :
    Calls Try.prog 55 #[fv, .agg #[.int .i64 p0, .int .i64 p1, .int .i64 p2], .int .i64 0] W (SeesPost (rdB F (tri p0 p1 p2) 0) W) := by
  have HJ := Lib.hid hj
  have h8 := hj.2.1 0 (by omega)
  have hb0 : Below W.heap.size W (W.alloc (.cells #[.int .i64 p0, .int .i64 p1, .int .i64 p2] 67)) := by (repeat' (first | exact Below.refl _ _ | assumption | refine Below.drew ?_ | refine below_drewN ?_ _ | refine Below.alloc ?_ (by omega) _ | refine Below.alloc ?_ (by simp; omega) _ | refine Below.alloc ?_ (by simp) _ | refine Below.setCell ?_ (by omega) _ | refine Below.setCell ?_ (by simp; omega) _ | refine Below.setCell ?_ (by simp) _))
  obtain ⟨b, off, c', a2, c2, ev, hc0, hcm, q1, q2, q3, -⟩ := h.feed (j := 0) (by rw [hj.1]; omega)
  subst ev
  rw [hj.1] at hc0 h ⊢
  have H := Lib.hid h
  unfold maxLen at q3 hcm
  simp only [Nat.add_zero] at q1
  have z1 : b < W.heap.size := World.block_lt_of_cell? W _ q1
  have HB0 := Lib.hid hb0
  have hz0 := hb0.size
  clear h hj hb0
  by_cases he : p0 = ln F 0
  · have hee : ((p0 : Int) == (ln F 0 : Int)) = true := by rw [beq_iff_eq]; omega
    have hf := Lib.hid (rdB_f (F := F) (p := tri p0 p1 p2) (w := 0) (fun hh => by have := hh.1; change p0 < _ at this; omega))
    clear he
    go_enter Try.func55, Try.ntmps55
    go_wp2
    go_quiet (fail)
    go_wp2
    go_ret
    exact ⟨ret_b hf.out.symm, by (repeat' (first | exact Below.refl _ _ | assumption | refine Below.drew ?_ | refine below_drewN ?_ _ | refine Below.alloc ?_ (by omega) _ | refine Below.alloc ?_ (by simp; omega) _ | refine Below.alloc ?_ (by simp) _ | refine Below.setCell ?_ (by omega) _ | refine Below.setCell ?_ (by simp; omega) _ | refine Below.setCell ?_ (by simp) _))⟩
  · have hee : ((p0 : Int) == (ln F 0 : Int)) = false := by rw [beq_eq_false_iff_ne]; omega
    have hlt : p0 < ln F 0 := by omega
    clear he
    obtain ⟨W1, hW1⟩ : ∃ W1, W1 = W.alloc (.cells #[.int .i64 p0, .int .i64 p1, .int .i64 p2] 67) := ⟨_, rfl⟩
    rw [← hW1] at HB0
    have a0 : W1.cell? ⟨W.heap.size, 0, none⟩ = some (.int .i64 p0) := by rw [hW1]; simp
    have a1 : W1.cell? ⟨W.heap.size, 1, none⟩ = some (.int .i64 p1) := by rw [hW1]; simp
    have a2' : W1.cell? ⟨W.heap.size, 2, none⟩ = some (.int .i64 p2) := by rw [hW1]; simp
    have HW1 := Lib.hid hW1
    clear hW1
    go_enter Try.func55, Try.ntmps55
    go_wp2
    go_quiet (fail)
    rw [← HW1.out]
    have HBn : Hid (Below W.heap.size W (W1.drewN nq)) := by have := HB0.out; show Below _ _ _; (repeat' (first | exact Below.refl _ _ | assumption | refine Below.drew ?_ | refine below_drewN ?_ _ | refine Below.alloc ?_ (by omega) _ | refine Below.alloc ?_ (by simp; omega) _ | refine Below.alloc ?_ (by simp) _ | refine Below.setCell ?_ (by omega) _ | refine Below.setCell ?_ (by simp; omega) _ | refine Below.setCell ?_ (by simp) _))
    obtain ⟨W3, hW3⟩ : ∃ W3, W3 = W1.drewN nq := ⟨_, rfl⟩
    have HB3 : Hid (Below W1.heap.size W1 W3) := by show Below _ _ _; rw [hW3]; (repeat' (first | exact Below.refl _ _ | assumption | refine Below.drew ?_ | refine below_drewN ?_ _ | refine Below.alloc ?_ (by omega) _ | refine Below.alloc ?_ (by simp; omega) _ | refine Below.alloc ?_ (by simp) _ | refine Below.setCell ?_ (by omega) _ | refine Below.setCell ?_ (by simp; omega) _ | refine Below.setCell ?_ (by simp) _))
    rw [← hW3] at HBn ⊢
    clear hW3 q1
    have a0 := cell_keep HB3.out a0
    have a1 := cell_keep HB3.out a1
    have a2' := cell_keep HB3.out a2'
    go_wp2_with fail
    refine (clock_c F _ 0 p0 _ (H.out.below HBn.out) (by rw [HJ.out.1]; omega) hlt).mono ?_
    rintro e w2 ⟨cv, rfl, hr, hb2⟩
    have HL := Lib.hid (HJ.out.2.2.1 0 (by omega) p0 hlt).1
    have a0 := cell_keep hb2 a0
    have a1 := cell_keep hb2 a1
    have a2' := cell_keep hb2 a2'
    have HW2 := Lib.hid (HBn.out.trans (hb2.mono HBn.out.size))
    obtain ⟨a3, c3, rfl, q5, q6⟩ := hr.shape
    rw [HL.out] at q5 ⊢
    unfold maxLen at q6
    have HR := Lib.hid hr
    clear hr hb2
    go_wp2
    go_loopw [26] (fun i' wr => ∃ v : Nat, v ≤ 3 ∧ i' = .int .i64 v ∧ Hid (Below w2.heap.size w2 wr) ∧ Hid (∀ u, u < v → u = 0 ∨ ck F 0 p0 u ≤ (tri p0 p1 p2 u : Int))) (fun i' _ => 3 - (intOf i').toNat)
    case atStart => exact ⟨0, Nat.zero_le _, rfl, Below.refl _ _, fun u hu => absurd hu (Nat.not_lt_zero _)⟩
    case round =>
      obtain ⟨v, hv, rfl, HBr, HN⟩ := hrel
      have a0r := cell_keep HBr.out a0
      have a1r := cell_keep HBr.out a1
      have a2r := cell_keep HBr.out a2'
      by_cases hv3 : v < 3
      · have hvv : v = 0 ∨ v = 1 ∨ v = 2 := by omega
        rcases hvv with hv0 | hv1 | hv2
        · subst hv0
          obtain ⟨b9, o9, c9, y, ev, -, -, q9, HY⟩ := HR.out.num' HL.out (show 0 < 3 by omega)
          simp only [Value.slice.injEq, Option.some.injEq, Addr.mk.injEq] at ev
          obtain ⟨rfl, -, rfl⟩ := ev
          have q9 := cell_keep HBr.out q9
          simp only [Nat.add_zero] at q9
          have HN' : Hid (∀ u, u < 1 → u = 0 ∨ ck F 0 p0 u ≤ (tri p0 p1 p2 u : Int)) := fun u hu => by
            by_cases e : u = 0
            · exact .inl e
            · exact HN.out u (by omega)
          go_wp2
          go_roundw
          case rel => exact ⟨1, by omega, rfl, HBr, HN'⟩
          case measure => simp [intOf]
        · subst hv1
          obtain ⟨b9, o9, c9, y, ev, -, -, q9, HY⟩ := HR.out.num' HL.out (show 1 < 3 by omega)
          simp only [Value.slice.injEq, Option.some.injEq, Addr.mk.injEq] at ev
          obtain ⟨rfl, -, rfl⟩ := ev
          have q9 := cell_keep HBr.out q9
          by_cases hgt : (p1 : Int) < y
          · have hf := Lib.hid (rdB_f (F := F) (p := tri p0 p1 p2) (w := 0) (fun hh => by
              rcases hh.2 1 (by omega) with h1 | h1
              · cases h1
              · have h2 : ck F 0 p0 1 = y := HY.out
                have h1 : ck F 0 p0 1 ≤ (p1 : Int) := h1
                omega))
            go_wp2
            go_ret
            exact ⟨ret_b hf.out.symm, HW2.out.trans (HBr.out.mono HW2.out.size)⟩
          · have hgt' : ¬ ((p1 : Int) < y) := hgt
            have HN' : Hid (∀ u, u < 2 → u = 0 ∨ ck F 0 p0 u ≤ (tri p0 p1 p2 u : Int)) := fun u hu => by
              by_cases e : u = 1
              · subst e
                refine .inr ?_
                have h2 : ck F 0 p0 1 = y := HY.out
                show ck F 0 p0 1 ≤ (p1 : Int)
                omega
              · exact HN.out u (by omega)
            go_wp2
            go_roundw
            case rel => exact ⟨2, by omega, rfl, HBr, HN'⟩
            case measure => simp [intOf]
        · subst hv2
          obtain ⟨b9, o9, c9, y, ev, -, -, q9, HY⟩ := HR.out.num' HL.out (show 2 < 3 by omega)
          simp only [Value.slice.injEq, Option.some.injEq, Addr.mk.injEq] at ev
          obtain ⟨rfl, -, rfl⟩ := ev
          have q9 := cell_keep HBr.out q9
          by_cases hgt : (p2 : Int) < y
          · have hf := Lib.hid (rdB_f (F := F) (p := tri p0 p1 p2) (w := 0) (fun hh => by
              rcases hh.2 2 (by omega) with h1 | h1
              · cases h1
              · have h2 : ck F 0 p0 2 = y := HY.out
                have h1 : ck F 0 p0 2 ≤ (p2 : Int) := h1
                omega))
            go_wp2
            go_ret
            exact ⟨ret_b hf.out.symm, HW2.out.trans (HBr.out.mono HW2.out.size)⟩
          · have hgt' : ¬ ((p2 : Int) < y) := hgt
            have HN' : Hid (∀ u, u < 3 → u = 0 ∨ ck F 0 p0 u ≤ (tri p0 p1 p2 u : Int)) := fun u hu => by
              by_cases e : u = 2
              · subst e
                refine .inr ?_
                have h2 : ck F 0 p0 2 = y := HY.out
                show ck F 0 p0 2 ≤ (p2 : Int)
                omega
              · exact HN.out u (by omega)
            go_wp2
            go_roundw
            case rel => exact ⟨3, by omega, rfl, HBr, HN'⟩
            case measure => simp [intOf]
      · obtain rfl : v = 3 := by omega
        have hT := Lib.hid (rdB_t (F := F) (p := tri p0 p1 p2) (w := 0) ⟨hlt, HN.out⟩)
        go_wp2
        go_ret
        exact ⟨ret_b hT.out.symm, HW2.out.trans (HBr.out.mono HW2.out.size)⟩
set_option maxHeartbeats 1600000 in
theorem ready1_c {S : Nat → Prop} (F : Fd) (fv : Value) (p0 p1 p2 : Nat) (W : World) (h : RdF S W fv F) (hj : JV F) (hp : p1 ≤ ln F 1) :
    Calls Try.prog 55 #[fv, .agg #[.int .i64 p0, .int .i64 p1, .int .i64 p2], .int .i64 1] W (SeesPost (rdB F (tri p0 p1 p2) 1) W) := by
  have HJ := Lib.hid hj
  have h8 := hj.2.1 1 (by omega)
  have hb0 : Below W.heap.size W (W.alloc (.cells #[.int .i64 p0, .int .i64 p1, .int .i64 p2] 67)) := by (repeat' (first | exact Below.refl _ _ | assumption | refine Below.drew ?_ | refine below_drewN ?_ _ | refine Below.alloc ?_ (by omega) _ | refine Below.alloc ?_ (by simp; omega) _ | refine Below.alloc ?_ (by simp) _ | refine Below.setCell ?_ (by omega) _ | refine Below.setCell ?_ (by simp; omega) _ | refine Below.setCell ?_ (by simp) _))
  obtain ⟨b, off, c', a2, c2, ev, hc0, hcm, q1, q2, q3, -⟩ := h.feed (j := 1) (by rw [hj.1]; omega)
  subst ev
  rw [hj.1] at hc0 h ⊢
  have H := Lib.hid h
  unfold maxLen at q3 hcm
  have z1 : b < W.heap.size := World.block_lt_of_cell? W _ q1
  have HB0 := Lib.hid hb0
  have hz0 := hb0.size
  clear h hj hb0
  by_cases he : p1 = ln F 1
  · have hee : ((p1 : Int) == (ln F 1 : Int)) = true := by rw [beq_iff_eq]; omega
    have hf := Lib.hid (rdB_f (F := F) (p := tri p0 p1 p2) (w := 1) (fun hh => by have := hh.1; change p1 < _ at this; omega))
    clear he
    go_enter Try.func55, Try.ntmps55
    go_wp2
    go_quiet (fail)
    go_wp2
    go_ret
    exact ⟨ret_b hf.out.symm, by (repeat' (first | exact Below.refl _ _ | assumption | refine Below.drew ?_ | refine below_drewN ?_ _ | refine Below.alloc ?_ (by omega) _ | refine Below.alloc ?_ (by simp; omega) _ | refine Below.alloc ?_ (by simp) _ | refine Below.setCell ?_ (by omega) _ | refine Below.setCell ?_ (by simp; omega) _ | refine Below.setCell ?_ (by simp) _))⟩
  · have hee : ((p1 : Int) == (ln F 1 : Int)) = false := by rw [beq_eq_false_iff_ne]; omega
    have hlt : p1 < ln F 1 := by omega
    clear he
    obtain ⟨W1, hW1⟩ : ∃ W1, W1 = W.alloc (.cells #[.int .i64 p0, .int .i64 p1, .int .i64 p2] 67) := ⟨_, rfl⟩
    rw [← hW1] at HB0
    have a0 : W1.cell? ⟨W.heap.size, 0, none⟩ = some (.int .i64 p0) := by rw [hW1]; simp
    have a1 : W1.cell? ⟨W.heap.size, 1, none⟩ = some (.int .i64 p1) := by rw [hW1]; simp
    have a2' : W1.cell? ⟨W.heap.size, 2, none⟩ = some (.int .i64 p2) := by rw [hW1]; simp
    have HW1 := Lib.hid hW1
    clear hW1
    go_enter Try.func55, Try.ntmps55
    go_wp2
    go_quiet (fail)
    rw [← HW1.out]
    have HBn : Hid (Below W.heap.size W (W1.drewN nq)) := by have := HB0.out; show Below _ _ _; (repeat' (first | exact Below.refl _ _ | assumption | refine Below.drew ?_ | refine below_drewN ?_ _ | refine Below.alloc ?_ (by omega) _ | refine Below.alloc ?_ (by simp; omega) _ | refine Below.alloc ?_ (by simp) _ | refine Below.setCell ?_ (by omega) _ | refine Below.setCell ?_ (by simp; omega) _ | refine Below.setCell ?_ (by simp) _))
    obtain ⟨W3, hW3⟩ : ∃ W3, W3 = W1.drewN nq := ⟨_, rfl⟩
    have HB3 : Hid (Below W1.heap.size W1 W3) := by show Below _ _ _; rw [hW3]; (repeat' (first | exact Below.refl _ _ | assumption | refine Below.drew ?_ | refine below_drewN ?_ _ | refine Below.alloc ?_ (by omega) _ | refine Below.alloc ?_ (by simp; omega) _ | refine Below.alloc ?_ (by simp) _ | refine Below.setCell ?_ (by omega) _ | refine Below.setCell ?_ (by simp; omega) _ | refine Below.setCell ?_ (by simp) _))
    rw [← hW3] at HBn ⊢
    clear hW3 q1
    have a0 := cell_keep HB3.out a0
    have a1 := cell_keep HB3.out a1
    have a2' := cell_keep HB3.out a2'
    go_wp2_with fail
    refine (clock_c F _ 1 p1 _ (H.out.below HBn.out) (by rw [HJ.out.1]; omega) hlt).mono ?_
    rintro e w2 ⟨cv, rfl, hr, hb2⟩
    have HL := Lib.hid (HJ.out.2.2.1 1 (by omega) p1 hlt).1
    have a0 := cell_keep hb2 a0
    have a1 := cell_keep hb2 a1
    have a2' := cell_keep hb2 a2'
    have HW2 := Lib.hid (HBn.out.trans (hb2.mono HBn.out.size))
    obtain ⟨a3, c3, rfl, q5, q6⟩ := hr.shape
    rw [HL.out] at q5 ⊢
    unfold maxLen at q6
    have HR := Lib.hid hr
    clear hr hb2
    go_wp2
    go_loopw [26] (fun i' wr => ∃ v : Nat, v ≤ 3 ∧ i' = .int .i64 v ∧ Hid (Below w2.heap.size w2 wr) ∧ Hid (∀ u, u < v → u = 1 ∨ ck F 1 p1 u ≤ (tri p0 p1 p2 u : Int))) (fun i' _ => 3 - (intOf i').toNat)
    case atStart => exact ⟨0, Nat.zero_le _, rfl, Below.refl _ _, fun u hu => absurd hu (Nat.not_lt_zero _)⟩
    case round =>
      obtain ⟨v, hv, rfl, HBr, HN⟩ := hrel
      have a0r := cell_keep HBr.out a0
      have a1r := cell_keep HBr.out a1
      have a2r := cell_keep HBr.out a2'
      by_cases hv3 : v < 3
      · have hvv : v = 0 ∨ v = 1 ∨ v = 2 := by omega
        rcases hvv with hv0 | hv1 | hv2
        · subst hv0
          obtain ⟨b9, o9, c9, y, ev, -, -, q9, HY⟩ := HR.out.num' HL.out (show 0 < 3 by omega)
          simp only [Value.slice.injEq, Option.some.injEq, Addr.mk.injEq] at ev
          obtain ⟨rfl, -, rfl⟩ := ev
          have q9 := cell_keep HBr.out q9
          simp only [Nat.add_zero] at q9
          by_cases hgt : (p0 : Int) < y
          · have hf := Lib.hid (rdB_f (F := F) (p := tri p0 p1 p2) (w := 1) (fun hh => by
              rcases hh.2 0 (by omega) with h1 | h1
              · cases h1
              · have h2 : ck F 1 p1 0 = y := HY.out
                have h1 : ck F 1 p1 0 ≤ (p0 : Int) := h1
                omega))
            go_wp2
            go_ret
            exact ⟨ret_b hf.out.symm, HW2.out.trans (HBr.out.mono HW2.out.size)⟩
          · have hgt' : ¬ ((p0 : Int) < y) := hgt
            have HN' : Hid (∀ u, u < 1 → u = 1 ∨ ck F 1 p1 u ≤ (tri p0 p1 p2 u : Int)) := fun u hu => by
              by_cases e : u = 0
              · subst e
                refine .inr ?_
                have h2 : ck F 1 p1 0 = y := HY.out
                show ck F 1 p1 0 ≤ (p0 : Int)
                omega
              · exact HN.out u (by omega)
            go_wp2
            go_roundw
            case rel => exact ⟨1, by omega, rfl, HBr, HN'⟩
            case measure => simp [intOf]
        · subst hv1
          obtain ⟨b9, o9, c9, y, ev, -, -, q9, HY⟩ := HR.out.num' HL.out (show 1 < 3 by omega)
          simp only [Value.slice.injEq, Option.some.injEq, Addr.mk.injEq] at ev
          obtain ⟨rfl, -, rfl⟩ := ev
          have q9 := cell_keep HBr.out q9
          have HN' : Hid (∀ u, u < 2 → u = 1 ∨ ck F 1 p1 u ≤ (tri p0 p1 p2 u : Int)) := fun u hu => by
            by_cases e : u = 1
            · exact .inl e
            · exact HN.out u (by omega)
          go_wp2
          go_roundw
          case rel => exact ⟨2, by omega, rfl, HBr, HN'⟩
          case measure => simp [intOf]
        · subst hv2
          obtain ⟨b9, o9, c9, y, ev, -, -, q9, HY⟩ := HR.out.num' HL.out (show 2 < 3 by omega)
          simp only [Value.slice.injEq, Option.some.injEq, Addr.mk.injEq] at ev
          obtain ⟨rfl, -, rfl⟩ := ev
          have q9 := cell_keep HBr.out q9
          by_cases hgt : (p2 : Int) < y
          · have hf := Lib.hid (rdB_f (F := F) (p := tri p0 p1 p2) (w := 1) (fun hh => by
              rcases hh.2 2 (by omega) with h1 | h1
              · cases h1
              · have h2 : ck F 1 p1 2 = y := HY.out
                have h1 : ck F 1 p1 2 ≤ (p2 : Int) := h1
                omega))
            go_wp2
            go_ret
            exact ⟨ret_b hf.out.symm, HW2.out.trans (HBr.out.mono HW2.out.size)⟩
          · have hgt' : ¬ ((p2 : Int) < y) := hgt
            have HN' : Hid (∀ u, u < 3 → u = 1 ∨ ck F 1 p1 u ≤ (tri p0 p1 p2 u : Int)) := fun u hu => by
              by_cases e : u = 2
              · subst e
                refine .inr ?_
                have h2 : ck F 1 p1 2 = y := HY.out
                show ck F 1 p1 2 ≤ (p2 : Int)
                omega
              · exact HN.out u (by omega)
            go_wp2
            go_roundw
            case rel => exact ⟨3, by omega, rfl, HBr, HN'⟩
            case measure => simp [intOf]
      · obtain rfl : v = 3 := by omega
        have hT := Lib.hid (rdB_t (F := F) (p := tri p0 p1 p2) (w := 1) ⟨hlt, HN.out⟩)
        go_wp2
        go_ret
        exact ⟨ret_b hT.out.symm, HW2.out.trans (HBr.out.mono HW2.out.size)⟩
set_option maxHeartbeats 1600000 in
theorem ready2_c {S : Nat → Prop} (F : Fd) (fv : Value) (p0 p1 p2 : Nat) (W : World) (h : RdF S W fv F) (hj : JV F) (hp : p2 ≤ ln F 2) :
    Calls Try.prog 55 #[fv, .agg #[.int .i64 p0, .int .i64 p1, .int .i64 p2], .int .i64 2] W (SeesPost (rdB F (tri p0 p1 p2) 2) W) := by
  have HJ := Lib.hid hj
  have h8 := hj.2.1 2 (by omega)
  have hb0 : Below W.heap.size W (W.alloc (.cells #[.int .i64 p0, .int .i64 p1, .int .i64 p2] 67)) := by (repeat' (first | exact Below.refl _ _ | assumption | refine Below.drew ?_ | refine below_drewN ?_ _ | refine Below.alloc ?_ (by omega) _ | refine Below.alloc ?_ (by simp; omega) _ | refine Below.alloc ?_ (by simp) _ | refine Below.setCell ?_ (by omega) _ | refine Below.setCell ?_ (by simp; omega) _ | refine Below.setCell ?_ (by simp) _))
  obtain ⟨b, off, c', a2, c2, ev, hc0, hcm, q1, q2, q3, -⟩ := h.feed (j := 2) (by rw [hj.1]; omega)
  subst ev
  rw [hj.1] at hc0 h ⊢
  have H := Lib.hid h
  unfold maxLen at q3 hcm
  have z1 : b < W.heap.size := World.block_lt_of_cell? W _ q1
  have HB0 := Lib.hid hb0
  have hz0 := hb0.size
  clear h hj hb0
  by_cases he : p2 = ln F 2
  · have hee : ((p2 : Int) == (ln F 2 : Int)) = true := by rw [beq_iff_eq]; omega
    have hf := Lib.hid (rdB_f (F := F) (p := tri p0 p1 p2) (w := 2) (fun hh => by have := hh.1; change p2 < _ at this; omega))
    clear he
    go_enter Try.func55, Try.ntmps55
    go_wp2
    go_quiet (fail)
    go_wp2
    go_ret
    exact ⟨ret_b hf.out.symm, by (repeat' (first | exact Below.refl _ _ | assumption | refine Below.drew ?_ | refine below_drewN ?_ _ | refine Below.alloc ?_ (by omega) _ | refine Below.alloc ?_ (by simp; omega) _ | refine Below.alloc ?_ (by simp) _ | refine Below.setCell ?_ (by omega) _ | refine Below.setCell ?_ (by simp; omega) _ | refine Below.setCell ?_ (by simp) _))⟩
  · have hee : ((p2 : Int) == (ln F 2 : Int)) = false := by rw [beq_eq_false_iff_ne]; omega
    have hlt : p2 < ln F 2 := by omega
    clear he
    obtain ⟨W1, hW1⟩ : ∃ W1, W1 = W.alloc (.cells #[.int .i64 p0, .int .i64 p1, .int .i64 p2] 67) := ⟨_, rfl⟩
    rw [← hW1] at HB0
    have a0 : W1.cell? ⟨W.heap.size, 0, none⟩ = some (.int .i64 p0) := by rw [hW1]; simp
    have a1 : W1.cell? ⟨W.heap.size, 1, none⟩ = some (.int .i64 p1) := by rw [hW1]; simp
    have a2' : W1.cell? ⟨W.heap.size, 2, none⟩ = some (.int .i64 p2) := by rw [hW1]; simp
    have HW1 := Lib.hid hW1
    clear hW1
    go_enter Try.func55, Try.ntmps55
    go_wp2
    go_quiet (fail)
    rw [← HW1.out]
    have HBn : Hid (Below W.heap.size W (W1.drewN nq)) := by have := HB0.out; show Below _ _ _; (repeat' (first | exact Below.refl _ _ | assumption | refine Below.drew ?_ | refine below_drewN ?_ _ | refine Below.alloc ?_ (by omega) _ | refine Below.alloc ?_ (by simp; omega) _ | refine Below.alloc ?_ (by simp) _ | refine Below.setCell ?_ (by omega) _ | refine Below.setCell ?_ (by simp; omega) _ | refine Below.setCell ?_ (by simp) _))
    obtain ⟨W3, hW3⟩ : ∃ W3, W3 = W1.drewN nq := ⟨_, rfl⟩
    have HB3 : Hid (Below W1.heap.size W1 W3) := by show Below _ _ _; rw [hW3]; (repeat' (first | exact Below.refl _ _ | assumption | refine Below.drew ?_ | refine below_drewN ?_ _ | refine Below.alloc ?_ (by omega) _ | refine Below.alloc ?_ (by simp; omega) _ | refine Below.alloc ?_ (by simp) _ | refine Below.setCell ?_ (by omega) _ | refine Below.setCell ?_ (by simp; omega) _ | refine Below.setCell ?_ (by simp) _))
    rw [← hW3] at HBn ⊢
    clear hW3 q1
    have a0 := cell_keep HB3.out a0
    have a1 := cell_keep HB3.out a1
    have a2' := cell_keep HB3.out a2'
    go_wp2_with fail
    refine (clock_c F _ 2 p2 _ (H.out.below HBn.out) (by rw [HJ.out.1]; omega) hlt).mono ?_
    rintro e w2 ⟨cv, rfl, hr, hb2⟩
    have HL := Lib.hid (HJ.out.2.2.1 2 (by omega) p2 hlt).1
    have a0 := cell_keep hb2 a0
    have a1 := cell_keep hb2 a1
    have a2' := cell_keep hb2 a2'
    have HW2 := Lib.hid (HBn.out.trans (hb2.mono HBn.out.size))
    obtain ⟨a3, c3, rfl, q5, q6⟩ := hr.shape
    rw [HL.out] at q5 ⊢
    unfold maxLen at q6
    have HR := Lib.hid hr
    clear hr hb2
    go_wp2
    go_loopw [26] (fun i' wr => ∃ v : Nat, v ≤ 3 ∧ i' = .int .i64 v ∧ Hid (Below w2.heap.size w2 wr) ∧ Hid (∀ u, u < v → u = 2 ∨ ck F 2 p2 u ≤ (tri p0 p1 p2 u : Int))) (fun i' _ => 3 - (intOf i').toNat)
    case atStart => exact ⟨0, Nat.zero_le _, rfl, Below.refl _ _, fun u hu => absurd hu (Nat.not_lt_zero _)⟩
    case round =>
      obtain ⟨v, hv, rfl, HBr, HN⟩ := hrel
      have a0r := cell_keep HBr.out a0
      have a1r := cell_keep HBr.out a1
      have a2r := cell_keep HBr.out a2'
      by_cases hv3 : v < 3
      · have hvv : v = 0 ∨ v = 1 ∨ v = 2 := by omega
        rcases hvv with hv0 | hv1 | hv2
        · subst hv0
          obtain ⟨b9, o9, c9, y, ev, -, -, q9, HY⟩ := HR.out.num' HL.out (show 0 < 3 by omega)
          simp only [Value.slice.injEq, Option.some.injEq, Addr.mk.injEq] at ev
          obtain ⟨rfl, -, rfl⟩ := ev
          have q9 := cell_keep HBr.out q9
          simp only [Nat.add_zero] at q9
          by_cases hgt : (p0 : Int) < y
          · have hf := Lib.hid (rdB_f (F := F) (p := tri p0 p1 p2) (w := 2) (fun hh => by
              rcases hh.2 0 (by omega) with h1 | h1
              · cases h1
              · have h2 : ck F 2 p2 0 = y := HY.out
                have h1 : ck F 2 p2 0 ≤ (p0 : Int) := h1
                omega))
            go_wp2
            go_ret
            exact ⟨ret_b hf.out.symm, HW2.out.trans (HBr.out.mono HW2.out.size)⟩
          · have hgt' : ¬ ((p0 : Int) < y) := hgt
            have HN' : Hid (∀ u, u < 1 → u = 2 ∨ ck F 2 p2 u ≤ (tri p0 p1 p2 u : Int)) := fun u hu => by
              by_cases e : u = 0
              · subst e
                refine .inr ?_
                have h2 : ck F 2 p2 0 = y := HY.out
                show ck F 2 p2 0 ≤ (p0 : Int)
                omega
              · exact HN.out u (by omega)
            go_wp2
            go_roundw
            case rel => exact ⟨1, by omega, rfl, HBr, HN'⟩
            case measure => simp [intOf]
        · subst hv1
          obtain ⟨b9, o9, c9, y, ev, -, -, q9, HY⟩ := HR.out.num' HL.out (show 1 < 3 by omega)
          simp only [Value.slice.injEq, Option.some.injEq, Addr.mk.injEq] at ev
          obtain ⟨rfl, -, rfl⟩ := ev
          have q9 := cell_keep HBr.out q9
          by_cases hgt : (p1 : Int) < y
          · have hf := Lib.hid (rdB_f (F := F) (p := tri p0 p1 p2) (w := 2) (fun hh => by
              rcases hh.2 1 (by omega) with h1 | h1
              · cases h1
              · have h2 : ck F 2 p2 1 = y := HY.out
                have h1 : ck F 2 p2 1 ≤ (p1 : Int) := h1
                omega))
            go_wp2
            go_ret
            exact ⟨ret_b hf.out.symm, HW2.out.trans (HBr.out.mono HW2.out.size)⟩
          · have hgt' : ¬ ((p1 : Int) < y) := hgt
            have HN' : Hid (∀ u, u < 2 → u = 2 ∨ ck F 2 p2 u ≤ (tri p0 p1 p2 u : Int)) := fun u hu => by
              by_cases e : u = 1
              · subst e
                refine .inr ?_
                have h2 : ck F 2 p2 1 = y := HY.out
                show ck F 2 p2 1 ≤ (p1 : Int)
                omega
              · exact HN.out u (by omega)
            go_wp2
            go_roundw
            case rel => exact ⟨2, by omega, rfl, HBr, HN'⟩
            case measure => simp [intOf]
        · subst hv2
          obtain ⟨b9, o9, c9, y, ev, -, -, q9, HY⟩ := HR.out.num' HL.out (show 2 < 3 by omega)
          simp only [Value.slice.injEq, Option.some.injEq, Addr.mk.injEq] at ev
          obtain ⟨rfl, -, rfl⟩ := ev
          have q9 := cell_keep HBr.out q9
          have HN' : Hid (∀ u, u < 3 → u = 2 ∨ ck F 2 p2 u ≤ (tri p0 p1 p2 u : Int)) := fun u hu => by
            by_cases e : u = 2
            · exact .inl e
            · exact HN.out u (by omega)
          go_wp2
          go_roundw
          case rel => exact ⟨3, by omega, rfl, HBr, HN'⟩
          case measure => simp [intOf]
      · obtain rfl : v = 3 := by omega
        have hT := Lib.hid (rdB_t (F := F) (p := tri p0 p1 p2) (w := 2) ⟨hlt, HN.out⟩)
        go_wp2
        go_ret
        exact ⟨ret_b hT.out.symm, HW2.out.trans (HBr.out.mono HW2.out.size)⟩
end Go.Proofs.Ythnepmhkeceadaa
