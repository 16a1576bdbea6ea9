/- Contracts of the draws of entries for the laws. -/
import Derived.Test.YtpgpnemehbbmpaaJwO
namespace Go.Proofs.Ytpgpnemehbbmpaa
open Go.RowKit
attribute [local go_sem ↓] Go.wp_at_zero Go.wp_at_succ
/-- some entries, to be read -/
def DrF (w : World) (e : Ending) (w' : World) : Prop := ∃ v F, e = .returned v ∧ RdF All w' v F ∧ Below w.heap.size w w'
theorem drawJoinValid_c (v : Value) (n : Nat) (w : World) (h : RdB w v n) : Calls Try.prog 56 #[v] w (DrF w) := by
  go_enter Try.func56, Try.ntmps56
  go_wp2_with fail
  refine (l6Open_c _ n _ h).mono ?_
  rintro e w1 ⟨r, rfl, hr, hR, hb1⟩
  clear h
  go_wp2_with fail
  refine (l92Join_c _ r 0 _ hR (by omega)).mono ?_
  rintro e w2 ⟨v2, F2, rfl, hj, hF2, hR2, hg2⟩
  have hb2 := below_r hb1 hg2 hr
  clear hR hg2
  go_wp2_with fail
  refine (l92Bent_c _ r _ F2 _ _ hR2 (by omega) hF2 hj).mono ?_
  rintro e w3 ⟨v3, F3, rfl, hF3, -, -, -, -, hg3⟩
  have hb3 := below_r hb2 hg3 hr
  clear hg3 hb2 hR2 hF2
  go_wp2
  go_ret
  exact ⟨_, F3, rfl, hF3.all, hb3⟩
theorem drawJoinOrder_c (v : Value) (n : Nat) (w : World) (h : RdB w v n) : Calls Try.prog 28 #[v] w (DrF w) := by
  go_enter Try.func28, Try.ntmps28
  go_wp2_with fail
  refine (drawJoinValid_c _ n _ h).mono ?_
  rintro e w1 ⟨v1, F, rfl, hF, hb1⟩
  go_wp2
  go_ret
  exact ⟨_, F, rfl, hF, hb1⟩
theorem drawJoinStable_c (v : Value) (n : Nat) (w : World) (h : RdB w v n) : Calls Try.prog 34 #[v] w (DrF w) := by
  go_enter Try.func34, Try.ntmps34
  go_wp2_with fail
  refine (drawJoinValid_c _ n _ h).mono ?_
  rintro e w1 ⟨v1, F, rfl, hF, hb1⟩
  go_wp2
  go_ret
  exact ⟨_, F, rfl, hF, hb1⟩
/-- the place of an entry, or the one behind -/
def RefPost (B r P : Nat) (w : World) (e : Ending) (w' : World) : Prop :=
  ∃ x y : Int, e = .returned (.agg #[.int .i64 x, .int .i64 y]) ∧ (0 ≤ x ∧ x ≤ 2) ∧ (0 ≤ y ∧ y ≤ 9) ∧ Reader B w' r P ∧ w.grownBy w' (some r)
theorem reader_new_set {B : Nat} {w : World} {r P x j : Nat} {u : Value} (h : Reader B w r P) (hx : B ≤ x) : Reader B (w.setCell ⟨x, j, none⟩ u) r P :=
  h.kept (grown_set (g := x) (World.grownBy.refl _ _)) (fun k hk => by cases hk; exact hx)
theorem grown_new_set {W w : World} {r x j : Nat} {u : Value} (h : W.grownBy w (some r)) (hx : W.heap.size ≤ x) : W.grownBy (w.setCell ⟨x, j, none⟩ u) (some r) :=
  ⟨h.os, h.tape, h.output, by simpa using h.size, fun k hk hne => by rw [heap_setCell_other w ⟨x, j, none⟩ k u (by simp; omega)]; exact h.block k hk hne⟩
theorem grown_new {W w : World} {r : Nat} (h : W.grownBy w (some r)) (o : Obj) : W.grownBy (w.alloc o) (some r) := grown_b h ((Below.refl _ _).alloc (Nat.le_refl _) _)
set_option maxHeartbeats 1600000 in
theorem l92Ref_c {S : Nat → Prop} (B r P : Nat) (F : Fd) (fv : Value) (W : World) (hR : Reader B W r P) (hP : P ≤ 4294967200) (h : RdF S W fv F) (hr : ¬ S r) (h8 : ∀ w, ln F w ≤ 8) (hF : F.length ≤ 3) :
    Calls Try.prog 54 #[.pointer (some ⟨r, 0, none⟩), fv] W (RefPost B r (P + 2) W) := by
  obtain ⟨a0, cap0, rfl, q1, q2⟩ := h.shape
  unfold maxLen at q2
  have H := Lib.hid h
  have hrB := hR.1
  have hBW := hR.2.1
  have hrW : r < W.heap.size := Nat.lt_of_lt_of_le hrB hBW
  have hR0 : Reader B (W.alloc (.cells #[.int .i64 0, .int .i64 0] 32)) r P := hR.below ((Below.refl _ _).alloc (Nat.le_refl _) _)
  clear h hR
  go_enter Try.func54, Try.ntmps54
  go_wp2_with fail
  refine (pick_c B r P 3 _ hR0 (by omega)).mono ?_
  rintro e w1 ⟨m, rfl, hm0, hm1, hR1, hg1⟩
  obtain ⟨x, rfl⟩ := Int.eq_ofNat_of_zero_le hm0
  have hx : x < 3 := by have := hm1 (by omega); omega
  have hrs : some W.heap.size ≠ some r := by simp; omega
  have c0 : w1.cell? ⟨W.heap.size, 0, none⟩ = some (.int .i64 0) := grown_cell hg1 (by simp) hrs
  have c1 : w1.cell? ⟨W.heap.size, 1, none⟩ = some (.int .i64 0) := grown_cell hg1 (by simp) hrs
  have f0 : ∀ o, w1.frozen? ⟨W.heap.size, o, none⟩ = false := fun o => (grown_frozen hg1 (by simp) hrs).trans (by simp)
  have hz1 : W.heap.size + 1 ≤ w1.heap.size := by have := hg1.size; simpa using this
  have HG1 := Lib.hid (grown_of_alloc hg1)
  clear hm0 hm1 hR0 hg1
  have h8x := h8 x
  by_cases hl : x < F.length
  · have hl' : (x : Int) < (F.length : Int) := by omega
    have hR1a := hR1.below ((Below.refl _ _).alloc (Nat.le_refl _) (.cells #[.int .i64 x, .int .i64 0] 32))
    have HG1a := Lib.hid (grown_new HG1.out (.cells #[.int .i64 x, .int .i64 0] 32))
    obtain ⟨b5, o5, c5, a6, c6, ev, -, -, q5, q6, q7, -⟩ := (rdF_kept H.out HG1a.out hr).feed hl
    simp only [Value.slice.injEq] at ev
    obtain ⟨rfl, -, rfl⟩ := ev
    have hb5 : b5 < w1.heap.size := by
      obtain ⟨b6, o6, c6', a7, c7, ev, -, -, q5', -⟩ := (rdF_kept H.out HG1.out hr).feed hl
      simp only [Value.slice.injEq, Option.some.injEq, Addr.mk.injEq, and_true] at ev
      obtain ⟨⟨rfl, rfl⟩, -⟩ := ev
      exact World.block_lt_of_cell? w1 _ q5'
    have q5 : w1.cell? ⟨b5, o5 + x, none⟩ = some (.slice a6 (ln F x) c6) := by rw [World.cell?_alloc_lt _ _ _ hb5] at q5; exact q5
    unfold maxLen at q7
    have hws : IntKind.i64.wrap ((ln F x : Int) + 1) = (ln F x : Int) + 1 := by rw [IntKind.wrap_i64]; omega
    have hb5n : b5 ≠ w1.heap.size := by omega
    clear hR1
    go_wp2_with fail
    refine (pick_c B r _ ((ln F x : Int) + 1) _ hR1a (by omega)).mono ?_
    rintro e w2 ⟨y, rfl, hy0, hy1, hR2, hg2⟩
    have hy1 := hy1 (by omega)
    have hrs2 : some w1.heap.size ≠ some r := by simp; omega
    have d0 : w2.cell? ⟨w1.heap.size, 0, none⟩ = some (.int .i64 x) := grown_cell hg2 (by simp) hrs2
    have d1 : w2.cell? ⟨w1.heap.size, 1, none⟩ = some (.int .i64 0) := grown_cell hg2 (by simp) hrs2
    have g1 : ∀ o, w2.frozen? ⟨w1.heap.size, o, none⟩ = false := fun o => (grown_frozen hg2 (by simp) hrs2).trans (by simp)
    have c0 : w2.cell? ⟨W.heap.size, 0, none⟩ = some (.int .i64 0) := grown_cell hg2 ((World.cell?_alloc_lt _ _ _ (by show W.heap.size < _; omega)).trans c0) hrs
    have c1 : w2.cell? ⟨W.heap.size, 1, none⟩ = some (.int .i64 0) := grown_cell hg2 ((World.cell?_alloc_lt _ _ _ (by show W.heap.size < _; omega)).trans c1) hrs
    have f0 : ∀ o, w2.frozen? ⟨W.heap.size, o, none⟩ = false := fun o => (grown_frozen hg2 (by simp; omega) hrs).trans ((((Below.refl w1.heap.size w1).alloc (Nat.le_refl _) _).frozen (p := ⟨W.heap.size, o, none⟩) (by show W.heap.size < _; omega)).trans (f0 o))
    have HG2 := Lib.hid (grown_trans HG1a.out hg2)
    have hwn : W.heap.size ≠ w1.heap.size := by omega
    clear hg2 hR1a q5
    go_wp2
    refine bodyPost_ret (v := .agg #[.int .i64 x, .int .i64 y]) (by simp [results, Try.results54, go_sem, c0, c1, d0, d1]) rfl ?_
    exact ⟨x, y, rfl, by omega, by omega, by (repeat (refine reader_new_set ?_ (by omega))); exact hR2.le (by omega), by (repeat (refine grown_new_set ?_ (by omega))); exact HG2.out⟩
  · have hl' : ¬ ((x : Int) < (F.length : Int)) := by omega
    have hwn : W.heap.size ≠ w1.heap.size := by omega
    obtain ⟨w2, hw2⟩ : ∃ w2, w2 = w1.alloc (.cells #[.int .i64 x, .int .i64 0] 32) := ⟨_, rfl⟩
    have hb2 : Below w1.heap.size w1 w2 := by rw [hw2]; exact (Below.refl _ _).alloc (Nat.le_refl _) _
    have d0 : w2.cell? ⟨w1.heap.size, 0, none⟩ = some (.int .i64 x) := by rw [hw2]; simp
    have d1 : w2.cell? ⟨w1.heap.size, 1, none⟩ = some (.int .i64 0) := by rw [hw2]; simp
    have g0 := (hb2.frozen (p := ⟨W.heap.size, 0, none⟩) (by show W.heap.size < _; omega)).trans (f0 0)
    have g1 := (hb2.frozen (p := ⟨W.heap.size, 1, none⟩) (by show W.heap.size < _; omega)).trans (f0 1)
    rw [hw2] at d0 d1 g0 g1
    clear hw2 hb2
    have g00 : w1.frozen? ⟨W.heap.size, 0, none⟩ = false := f0 0
    have g01 : w1.frozen? ⟨W.heap.size, 1, none⟩ = false := f0 1
    have hwl : W.heap.size < w1.heap.size := by omega
    clear f0
    go_wp2
    have k0 : (((w1.setCell ⟨W.heap.size, 0, none⟩ (.int .i64 x)).setCell ⟨W.heap.size, 1, none⟩ (.int .i64 0)).alloc (.cells #[.int .i64 x, .int .i64 0] 32)).cell? ⟨W.heap.size, 0, none⟩ = some (.int .i64 x) := by
      rw [World.cell?_alloc_lt _ _ _ (by simp; omega), World.cell?_setCell_other _ _ _ _ (by simp), World.cell?_setCell_same _ _ _ c0]
    have k1 : (((w1.setCell ⟨W.heap.size, 0, none⟩ (.int .i64 x)).setCell ⟨W.heap.size, 1, none⟩ (.int .i64 0)).alloc (.cells #[.int .i64 x, .int .i64 0] 32)).cell? ⟨W.heap.size, 1, none⟩ = some (.int .i64 0) := by
      rw [World.cell?_alloc_lt _ _ _ (by simp; omega), World.cell?_setCell_same _ _ _ ((World.cell?_setCell_other _ _ _ _ (by simp)).trans c1)]
    refine bodyPost_ret (v := .agg #[.int .i64 x, .int .i64 0]) (by simp [results, Try.results54, go_sem, k0, k1]) rfl ?_
    exact ⟨x, 0, rfl, by omega, by omega, ((reader_new_set (reader_new_set hR1 hBW) hBW).below ((Below.refl _ _).alloc (Nat.le_refl _) _)).le (by omega), grown_new (grown_new_set (grown_new_set HG1.out (Nat.le_refl _)) (Nat.le_refl _)) _⟩
def DrFRR (w : World) (e : Ending) (w' : World) : Prop :=
  ∃ (v : Value) (F : Fd) (a0 a1 b0 b1 : Int), e = .returned (.tuple #[v, .agg #[.int .i64 a0, .int .i64 a1], .agg #[.int .i64 b0, .int .i64 b1]]) ∧ RdF All w' v F ∧ (0 ≤ a0 ∧ a0 ≤ 2 ∧ 0 ≤ a1 ∧ a1 ≤ 9) ∧ (0 ≤ b0 ∧ b0 ≤ 2 ∧ 0 ≤ b1 ∧ b1 ≤ 9) ∧ Below w.heap.size w w'
set_option maxRecDepth 100000 in
set_option maxHeartbeats 3200000 in
theorem drawJoinSees_c (v : Value) (n : Nat) (W : World) (h : RdB W v n) : Calls Try.prog 26 #[v] W (DrFRR W) := by
  have hb0 : Below W.heap.size W ((W.alloc (.cells #[.int .i64 0, .int .i64 0] 32)).alloc (.cells #[.int .i64 0, .int .i64 0] 32)) := by (repeat' (first | exact Below.refl _ _ | assumption | refine Below.drew ?_ | refine below_drewN ?_ _ | refine Below.alloc ?_ (by omega) _ | refine Below.alloc ?_ (by simp; omega) _ | refine Below.alloc ?_ (by simp) _ | refine Below.setCell ?_ (by omega) _ | refine Below.setCell ?_ (by simp; omega) _ | refine Below.setCell ?_ (by simp) _))
  have h0 := h.below hb0
  have hz0 : W.heap.size + 2 ≤ ((W.alloc (.cells #[.int .i64 0, .int .i64 0] 32)).alloc (.cells #[.int .i64 0, .int .i64 0] 32)).heap.size := by simp
  clear h
  go_enter Try.func26, Try.ntmps26
  go_wp2_with fail
  refine (l6Open_c _ n _ h0).mono ?_
  rintro e w1 ⟨r, rfl, hr, hR, hb1⟩
  have hr : W.heap.size + 2 ≤ r := by simp at hr; omega
  have hB1 := hb0.trans (hb1.mono (by omega))
  have c0 : w1.cell? ⟨W.heap.size, 0, none⟩ = some (.int .i64 0) := cell_keep hb1 (by simp)
  have c1 : w1.cell? ⟨W.heap.size, 1, none⟩ = some (.int .i64 0) := cell_keep hb1 (by simp)
  have c2 : w1.cell? ⟨W.heap.size + 1, 0, none⟩ = some (.int .i64 0) := cell_keep hb1 (by simp)
  have c3 : w1.cell? ⟨W.heap.size + 1, 1, none⟩ = some (.int .i64 0) := cell_keep hb1 (by simp)
  have f0 : ∀ b o, (b = W.heap.size ∨ b = W.heap.size + 1) → w1.frozen? ⟨b, o, none⟩ = false := fun b o hb => by
    rw [hb1.frozen (p := ⟨b, o, none⟩) (by simp; omega)]
    rcases hb with rfl | rfl <;> simp
  clear h0 hb1 hb0
  go_wp2_with fail
  refine (l92Join_c _ r 0 _ hR (by omega)).mono ?_
  rintro e w2 ⟨v2, F2, rfl, hj, hF2, hR2, hg2⟩
  have n0 : some W.heap.size ≠ some r := by simp; omega
  have n1 : some (W.heap.size + 1) ≠ some r := by simp; omega
  clear hR
  go_wp2_with fail
  refine (l92Bent_c _ r _ F2 _ _ hR2 (by omega) hF2 hj).mono ?_
  rintro e w3 ⟨v3, F3, rfl, hF3, h8, h3, -, hR3, hg3⟩
  have hg3' := grown_trans hg2 hg3
  have hrw2 : r < w2.heap.size := Nat.lt_of_lt_of_le hR2.1 hR2.2.1
  clear hF2 hj hR2 hg2 hg3
  go_wp2_with fail
  refine (l92Ref_c _ r _ F3 _ _ hR3 (by omega) hF3 (by omega) h8 h3).mono ?_
  rintro e w4 ⟨a0, a1, rfl, ha0, ha1, hR4, hg4⟩
  have hF4 := rdF_kept hF3 hg4 (by omega)
  have hg4' := grown_trans hg3' hg4
  have c0 := grown_cell hg4' c0 n0
  have c1 := grown_cell hg4' c1 n0
  have c2 := grown_cell hg4' c2 n1
  have c3 := grown_cell hg4' c3 n1
  have hz1 : W.heap.size + 2 ≤ w1.heap.size := Nat.le_trans hz0 (by have := hB1.size; have := hR4.2.1; have := hR4.1; omega)
  have f0 : ∀ b o, (b = W.heap.size ∨ b = W.heap.size + 1) → w4.frozen? ⟨b, o, none⟩ = false := fun b o hb => (grown_frozen hg4' (by show b < _; omega) (by simp; omega)).trans (f0 b o hb)
  have hz4 : W.heap.size + 2 ≤ w4.heap.size := Nat.le_trans hz1 hg4'.size
  have hB4 := below_r hB1 hg4' (by omega)
  clear hF3 hR3 hg3' hg4 hg4' hB1
  obtain ⟨w5, hw5⟩ : ∃ w5, w5 = w4.alloc (.cells #[.int .i64 a0, .int .i64 a1] 32) := ⟨_, rfl⟩
  have hb5 : Below w4.heap.size w4 w5 := by rw [hw5]; exact (Below.refl _ _).alloc (Nat.le_refl _) _
  have hR5 := hR4.below hb5
  have HF5 := Lib.hid (hF4.below hb5)
  have HB5 := Lib.hid (hB4.trans (hb5.mono (by omega)))
  have x0 : w5.cell? ⟨w4.heap.size, 0, none⟩ = some (.int .i64 a0) := by rw [hw5]; simp
  have x1 : w5.cell? ⟨w4.heap.size, 1, none⟩ = some (.int .i64 a1) := by rw [hw5]; simp
  have HC := Lib.hid (And.intro (cell_keep hb5 c0) (And.intro (cell_keep hb5 c1) (And.intro (cell_keep hb5 c2) (cell_keep hb5 c3))))
  have HFZ : Hid (∀ b o, (b = W.heap.size ∨ b = W.heap.size + 1) → w5.frozen? ⟨b, o, none⟩ = false) := fun b o hb => (hb5.frozen (p := ⟨b, o, none⟩) (by show b < _; omega)).trans (f0 b o hb)
  have HW5 := Lib.hid hw5
  have hz5 : w5.heap.size = w4.heap.size + 1 := by rw [hw5]; simp
  have hrw4 : r < w4.heap.size := Nat.lt_of_lt_of_le hR4.1 hR4.2.1
  have HA := Lib.hid (And.intro ha0 ha1)
  clear hw5 hb5 hF4 hB4 c0 c1 c2 c3 f0 hR4 ha0 ha1
  go_wp2
  rw [← HW5.out]
  have hR5d : Reader w1.heap.size w5.drew r _ := hR5
  have HF5d : RdF (fun b => w2.heap.size ≤ b) w5.drew v3 F3 := HF5.out
  go_region_with (go_at_call 54; (refine (l92Ref_c (S := fun b => w2.heap.size ≤ b) _ r _ F3 _ _ hR5d (by omega) HF5d (by omega) h8 h3).mono ?_); rintro e w6 ⟨b0, b1, rfl, hb0', hb1', hR6, hg6⟩; have d0 := grown_cell hg6 (show w5.drew.cell? _ = _ from HC.out.1) n0; have d1 := grown_cell hg6 (show w5.drew.cell? _ = _ from HC.out.2.1) n0; have d2 := grown_cell hg6 (show w5.drew.cell? _ = _ from HC.out.2.2.1) n1; have d3 := grown_cell hg6 (show w5.drew.cell? _ = _ from HC.out.2.2.2) n1; have g0 : w6.frozen? ⟨W.heap.size, 0, none⟩ = false := (grown_frozen hg6 (show W.heap.size < w5.heap.size by omega) n0).trans (HFZ.out _ _ (.inl rfl)); have g1 : w6.frozen? ⟨W.heap.size, 1, none⟩ = false := (grown_frozen hg6 (show W.heap.size < w5.heap.size by omega) n0).trans (HFZ.out _ _ (.inl rfl)); have g2 : w6.frozen? ⟨W.heap.size + 1, 0, none⟩ = false := (grown_frozen hg6 (show W.heap.size + 1 < w5.heap.size by omega) n1).trans (HFZ.out _ _ (.inr rfl)); have g3 : w6.frozen? ⟨W.heap.size + 1, 1, none⟩ = false := (grown_frozen hg6 (show W.heap.size + 1 < w5.heap.size by omega) n1).trans (HFZ.out _ _ (.inr rfl)); have y0 := grown_cell hg6 (show w5.drew.cell? _ = _ from x0) (show some w4.heap.size ≠ some r by simp; omega); have y1 := grown_cell hg6 (show w5.drew.cell? _ = _ from x1) (show some w4.heap.size ≠ some r by simp; omega))
  all_goals
    have fin : ∀ wz, Chg (fun b => b = W.heap.size ∨ b = W.heap.size + 1) w6 wz → DrFRR W (.returned (.tuple #[v3, .agg #[.int .i64 a0, .int .i64 a1], .agg #[.int .i64 b0, .int .i64 b1]])) wz := fun wz hc =>
      ⟨v3, F3, a0, a1, b0, b1, rfl, ((rdF_kept HF5.out (grown_trans (grown_drew (World.grownBy.refl _ _)) hg6) (by omega)).chg hc (fun k hk e => by have := hrw2; omega)).all, ⟨HA.out.1.1, HA.out.1.2, HA.out.2.1, HA.out.2.2⟩, ⟨hb0'.1, hb0'.2, hb1'.1, hb1'.2⟩, (below_r HB5.out (grown_trans (grown_drew (World.grownBy.refl _ _)) hg6) (by omega)).trans (hc.below (by have := HB5.out.size; have := hg6.size; simp at this; omega) (fun k hk => by omega) |>.mono (Nat.le_refl _))⟩
    have FIN := Lib.hid fin
    clear fin
    go_wp2
    refine bodyPost_ret (v := .tuple #[v3, .agg #[.int .i64 a0, .int .i64 a1], .agg #[.int .i64 b0, .int .i64 b1]]) (by simp [results, Try.results26, go_sem, d0, d1, d2, d3]) rfl (FIN.out _ ?_)
    repeat (refine Chg.setC ?_ (by first | exact .inl rfl | exact .inr rfl))
    exact Chg.refl _ _
end Go.Proofs.Ytpgpnemehbbmpaa
