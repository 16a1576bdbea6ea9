/- The walks of the laws FnExactJoinValid, FnExactJoinSees. -/
import Derived.Test.YtgifpbjlhcbfiaaJwF
import Derived.Test.YtgifpbjlhcbfiaaEqE
import Derived.Deep.RegionHeld3
import Derived.Deep.DrawnRows
namespace Go.Proofs.Ytgifpbjlhcbfiaa
open Go.RowKit
attribute [local go_sem ↓] Go.wp_at_zero Go.wp_at_succ
set_option maxHeartbeats 800000 in
theorem lawFnExactJoinValid_c (w : World) (v : Value) (F : Fd) (h : RdF All w v F) : Calls Try.prog 3 #[v] w fun e w' => e = .returned (.bool true) ∧ Below w.heap.size w w' := by
  have H := Lib.hid h
  clear h
  go_enter Try.func3, Try.ntmps3
  go_wp2_with fail
  refine (szEntrySS_c _ F 1048576 _ H.out (by omega) (by omega)).mono ?_
  rintro e w0 ⟨r, rfl, r1, r2, r3, hb0⟩
  have HS := Lib.hid r3
  have T0 := Lib.hid hb0
  clear r3 hb0
  by_cases hr : r < 0
  · go_wp2
    go_ret
    exact ⟨rfl, T0.out⟩
  · have HSm := Lib.hid (HS.out (by omega))
    go_wp2_with fail
    refine (toEntrySS_c _ F _ (H.out.below T0.out) HSm.out).mono ?_
    rintro e w1 ⟨va, rfl, ha, hb1⟩
    have A1 := Lib.hid ha
    have T1 := Lib.hid (T0.out.trans (hb1.mono T0.out.size))
    clear ha hb1 T0
    go_wp2_with fail
    refine (specJoinValid_c F _ _ A1.out.rd).mono ?_
    rintro e w2 ⟨rfl, hb2⟩
    have T2 := Lib.hid (T1.out.trans (hb2.mono T1.out.size))
    clear hb2 T1 A1
    go_wp2_with fail
    refine (toEntrySS_c _ F _ (H.out.below T2.out) HSm.out).mono ?_
    rintro e w3 ⟨vx, rfl, hx, hb3⟩
    have X3 := Lib.hid hx
    have T3 := Lib.hid (T2.out.trans (hb3.mono T2.out.size))
    clear hx hb3 T2
    go_wp2_with fail
    refine (joinValid_c F _ _ X3.out.rd).mono ?_
    rintro e w4 ⟨rfl, hb4⟩
    have X4 := Lib.hid (X3.out.below hb4)
    have T4 := Lib.hid (T3.out.trans (hb4.mono T3.out.size))
    clear hb4 T3 X3
    obtain ⟨q, hq⟩ : ∃ q, jvB F = q := ⟨_, rfl⟩
    rw [hq]
    clear hq
    cases q
    all_goals
      go_wp2_with fail
      refine (toEntrySS_c _ F _ (H.out.below T4.out) HSm.out).mono ?_
      rintro e w5 ⟨vy, rfl, hy, hb5⟩
      have X5 := Lib.hid (X4.out.below hb5)
      have Y5 := Lib.hid hy
      have T5 := Lib.hid (T4.out.trans (hb5.mono T4.out.size))
      clear hy hb5 T4 X4
      go_wp2_with fail
      refine (eqEntrySS_c _ _ F _ X5.out.rd Y5.out.rd).mono ?_
      rintro e w6 ⟨rfl, hb6⟩
      have T6 := Lib.hid (T5.out.trans (hb6.mono T5.out.size))
      clear hb6
      go_wp2
      go_ret
      exact ⟨rfl, T6.out⟩
set_option maxRecDepth 100000 in
set_option maxHeartbeats 3200000 in
theorem lawFnExactJoinSees_c (w : World) (v : Value) (F : Fd) (h : RdF All w v F) (aw ai bw bi : Int) : Calls Try.prog 4 #[v, .agg #[.int .i64 aw, .int .i64 ai], .agg #[.int .i64 bw, .int .i64 bi]] w fun e w' => e = .returned (.bool true) ∧ Below w.heap.size w w' := by
  have hB0 : Below w.heap.size w ((w.alloc (.cells #[.int .i64 aw, .int .i64 ai] 30)).alloc (.cells #[.int .i64 bw, .int .i64 bi] 30)) := by (repeat' (first | exact Below.refl _ _ | assumption | refine Below.drew ?_ | refine below_drewN ?_ _ | refine Below.alloc ?_ (by omega) _ | refine Below.alloc ?_ (by simp; omega) _ | refine Below.alloc ?_ (by simp) _ | refine Below.setCell ?_ (by omega) _ | refine Below.setCell ?_ (by simp; omega) _ | refine Below.setCell ?_ (by simp) _))
  have H := Lib.hid h
  have TB := Lib.hid hB0
  have hz0 := hB0.size
  clear h hB0
  go_enter Try.func4, Try.ntmps4
  go_wp2_with fail
  refine (szEntrySS_c _ F 1048576 _ (H.out.below TB.out) (by omega) (by omega)).mono ?_
  rintro e w0 ⟨r, rfl, r1, r2, r3, hb0⟩
  have x0 := cell_keep hb0 (show _ = some (.int .i64 aw) by simp) (a := ⟨w.heap.size, 0, none⟩)
  have x1 := cell_keep hb0 (show _ = some (.int .i64 ai) by simp) (a := ⟨w.heap.size, 1, none⟩)
  have y0 := cell_keep hb0 (show _ = some (.int .i64 bw) by simp) (a := ⟨w.heap.size + 1, 0, none⟩)
  have y1 := cell_keep hb0 (show _ = some (.int .i64 bi) by simp) (a := ⟨w.heap.size + 1, 1, none⟩)
  have HS := Lib.hid r3
  have T0 := Lib.hid (TB.out.trans (hb0.mono hz0))
  clear r3 hb0
  by_cases hr : r < 0
  · go_wp2
    go_ret
    exact ⟨rfl, T0.out⟩
  · have HSm := Lib.hid (HS.out (by omega))
    have T0d := Lib.hid T0.out.drew
    go_wp2
    go_region_held3 (fun w' => w'.cell? ⟨w.heap.size, 0, none⟩ = some (.int .i64 aw) ∧ w'.cell? ⟨w.heap.size, 1, none⟩ = some (.int .i64 ai) ∧ w'.cell? ⟨w.heap.size + 1, 0, none⟩ = some (.int .i64 bw) ∧ w'.cell? ⟨w.heap.size + 1, 1, none⟩ = some (.int .i64 bi)) (first | go_keep | (refine ⟨?_, ?_, ?_, ?_⟩ <;> (first | (refine cell_keep hb4 ?_; simp [*]; done) | (refine cell_keep hb3 ?_; simp [*]; done) | (refine cell_keep hb2 ?_; simp [*]; done) | (refine cell_keep hb1 ?_; simp [*]; done)))) ((first | ((with_reducible refine (toEntrySS_c _ F _ (H.out.below T0d.out) HSm.out).mono ?_); rintro e w1 ⟨va, rfl, ha, hb1⟩; have A1 := Lib.hid ha; have T1 := Lib.hid (T0d.out.trans (hb1.mono T0d.out.size))) | ((with_reducible refine (toRef_c aw ai _).mono ?_); rintro e w2 ⟨rfl, hb2⟩; have A2 := Lib.hid (A1.out.below hb2); have T2 := Lib.hid (T1.out.trans (hb2.mono T1.out.size))) | ((with_reducible refine (toRef_c bw bi _).mono ?_); rintro e w3 ⟨rfl, hb3⟩; have A3 := Lib.hid (A2.out.below hb3); have T3 := Lib.hid (T2.out.trans (hb3.mono T2.out.size))) | ((with_reducible refine (specJoinSees_c F _ aw ai bw bi _ A3.out.rd).mono ?_); rintro e w4 ⟨rfl, hb4⟩; have T4 := Lib.hid (T3.out.trans (hb4.mono T3.out.size)))))
    have x0 := cell_keep hb4 (cell_keep hb3 (cell_keep hb2 (cell_keep hb1 (show w0.drew.cell? _ = _ from x0))))
    have x1 := cell_keep hb4 (cell_keep hb3 (cell_keep hb2 (cell_keep hb1 (show w0.drew.cell? _ = _ from x1))))
    have y0 := cell_keep hb4 (cell_keep hb3 (cell_keep hb2 (cell_keep hb1 (show w0.drew.cell? _ = _ from y0))))
    have y1 := cell_keep hb4 (cell_keep hb3 (cell_keep hb2 (cell_keep hb1 (show w0.drew.cell? _ = _ from y1))))
    clear hb1 hb2 hb3 hb4 ha A1 A2 A3 T0 T0d T1 T2 T3
    go_wp2_with fail
    refine (toEntrySS_c _ F _ (H.out.below T4.out) HSm.out).mono ?_
    rintro e w5 ⟨vx, rfl, hx, hb5⟩
    have x0 := cell_keep hb5 x0
    have x1 := cell_keep hb5 x1
    have y0 := cell_keep hb5 y0
    have y1 := cell_keep hb5 y1
    have X5 := Lib.hid hx
    have T5 := Lib.hid (T4.out.trans (hb5.mono T4.out.size))
    have T5d := Lib.hid T5.out.drew
    have X5d := Lib.hid (X5.out.below (Below.refl _ _).drew)
    clear hx hb5 T4 T5 X5
    go_wp2
    go_region_held3 (fun w' => w'.cell? ⟨w.heap.size, 0, none⟩ = some (.int .i64 aw) ∧ w'.cell? ⟨w.heap.size, 1, none⟩ = some (.int .i64 ai) ∧ w'.cell? ⟨w.heap.size + 1, 0, none⟩ = some (.int .i64 bw) ∧ w'.cell? ⟨w.heap.size + 1, 1, none⟩ = some (.int .i64 bi)) (first | go_keep | (refine ⟨?_, ?_, ?_, ?_⟩ <;> (first | (refine cell_keep hb8 ?_; simp [*]; done) | (refine cell_keep hb7 ?_; simp [*]; done) | (refine cell_keep hb6 ?_; simp [*]; done)))) ((first | ((with_reducible refine (toRef_c aw ai _).mono ?_); rintro e w6 ⟨rfl, hb6⟩; have A6 := Lib.hid (X5d.out.below hb6); have T6 := Lib.hid (T5d.out.trans (hb6.mono T5d.out.size))) | ((with_reducible refine (toRef_c bw bi _).mono ?_); rintro e w7 ⟨rfl, hb7⟩; have A7 := Lib.hid (A6.out.below hb7); have T7 := Lib.hid (T6.out.trans (hb7.mono T6.out.size))) | ((with_reducible refine (joinSees_c F _ aw ai bw bi _ A7.out.rd).mono ?_); rintro e w8 ⟨rfl, hb8⟩; have A8 := Lib.hid (A7.out.below hb8); have T8 := Lib.hid (T7.out.trans (hb8.mono T7.out.size)))))
    clear hb6 hb7 hb8 A6 A7 T6 T7 x0 x1 y0 y1
    obtain ⟨q, hq⟩ : ∃ q, jsB F aw ai bw bi = q := ⟨_, rfl⟩
    rw [hq]
    clear hq
    cases q
    all_goals
      go_wp2_with fail
      refine (toEntrySS_c _ F _ (H.out.below T8.out) HSm.out).mono ?_
      rintro e w9 ⟨vy, rfl, hy, hb9⟩
      have X9 := Lib.hid (A8.out.below hb9)
      have Y9 := Lib.hid hy
      have T9 := Lib.hid (T8.out.trans (hb9.mono T8.out.size))
      clear hy hb9 T8 A8
      go_wp2_with fail
      refine (eqEntrySS_c _ _ F _ X9.out.rd Y9.out.rd).mono ?_
      rintro e w10 ⟨rfl, hb10⟩
      have T10 := Lib.hid (T9.out.trans (hb10.mono T9.out.size))
      clear hb10
      go_wp2
      go_ret
      exact ⟨rfl, T10.out⟩
end Go.Proofs.Ytgifpbjlhcbfiaa
