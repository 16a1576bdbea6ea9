/- The walk of the law FnExactFeedValid. -/
import Derived.Test.YtbjndbaljenlgaaEg
import Derived.Deep.RegionHeld3
namespace Go.Proofs.Ytbjndbaljenlgaa
open Go.RowKit
theorem neq_self (q : Bool) : (q != q) = false := by cases q <;> rfl
set_option maxHeartbeats 1000000 in
theorem lawFnExactFeedValid_c (w : World) (f : FeedV) (vb vh : Value) (hb : Rd 1 w vb f.bs.length (encS f.bs)) (hh : Rd 1 w vh f.hv.length (encB f.hv)) (hf : Fits f.bs) :
    Calls Try.prog 7 #[.agg #[.int .i64 f.pub, .int .i64 f.len, .int .i64 f.dig, .int .i64 f.sign, vb, vh]] w fun e w' => e = .returned (.bool true) ∧ Below w.heap.size w w' := by
  have SZ := Lib.hid (fun W (hW : Below w.heap.size w W) => szFeed_c f vb vh 1048576 W (hb.below hW) (hh.below hW) hf (by omega) (by omega))
  have TF := Lib.hid (fun W (hW : Below w.heap.size w W) (hn : f.bs.length ≤ 1048576 ∧ f.hv.length ≤ 1048576) => toFeed_c f vb vh W (hb.below hW) (hh.below hW) hn)
  obtain ⟨W0, hW0⟩ : ∃ W0, W0 = w.alloc (.cells #[.int .i64 f.pub, .int .i64 f.len, .int .i64 f.dig, .int .i64 f.sign, vb, vh] 57) := ⟨_, rfl⟩
  have hB0 : Below w.heap.size w W0 := by rw [hW0]; (repeat' (first | exact Below.refl _ _ | assumption | refine Below.drew ?_ | refine below_drewN ?_ _ | refine Below.alloc ?_ (by omega) _ | refine Below.alloc ?_ (by simp; omega) _ | refine Below.alloc ?_ (by simp) _ | refine Below.setCell ?_ (by omega) _ | refine Below.setCell ?_ (by simp; omega) _ | refine Below.setCell ?_ (by simp) _))
  have x0 : W0.cell? ⟨w.heap.size, 0, none⟩ = some (.int .i64 f.pub) := by rw [hW0]; (repeat rw [World.cell?_alloc_lt _ _ _ (by first | (simp; done) | (simp; omega))]); exact cell_new (by simp) rfl
  have x1 : W0.cell? ⟨w.heap.size, 1, none⟩ = some (.int .i64 f.len) := by rw [hW0]; (repeat rw [World.cell?_alloc_lt _ _ _ (by first | (simp; done) | (simp; omega))]); exact cell_new (by simp) rfl
  have x2 : W0.cell? ⟨w.heap.size, 2, none⟩ = some (.int .i64 f.dig) := by rw [hW0]; (repeat rw [World.cell?_alloc_lt _ _ _ (by first | (simp; done) | (simp; omega))]); exact cell_new (by simp) rfl
  have x3 : W0.cell? ⟨w.heap.size, 3, none⟩ = some (.int .i64 f.sign) := by rw [hW0]; (repeat rw [World.cell?_alloc_lt _ _ _ (by first | (simp; done) | (simp; omega))]); exact cell_new (by simp) rfl
  have x4 : W0.cell? ⟨w.heap.size, 4, none⟩ = some (vb) := by rw [hW0]; (repeat rw [World.cell?_alloc_lt _ _ _ (by first | (simp; done) | (simp; omega))]); exact cell_new (by simp) rfl
  have x5 : W0.cell? ⟨w.heap.size, 5, none⟩ = some (vh) := by rw [hW0]; (repeat rw [World.cell?_alloc_lt _ _ _ (by first | (simp; done) | (simp; omega))]); exact cell_new (by simp) rfl
  have HB := Lib.hid hB0
  clear hB0 hf
  obtain ⟨-, a1, k1, rfl, hb1, hb2, -⟩ := hb
  obtain ⟨-, a2, k2, rfl, hh1, hh2, -⟩ := hh
  go_enter Try.func7, Try.ntmps7
  go_wp2_with fail
  rw [← hW0]
  clear hW0
  refine (SZ.out _ HB.out).mono ?_
  rintro e w1 ⟨r, rfl, r1, r2, r3, hb1'⟩
  have x0 := cell_keep hb1' x0
  have x1 := cell_keep hb1' x1
  have x2 := cell_keep hb1' x2
  have x3 := cell_keep hb1' x3
  have x4 := cell_keep hb1' x4
  have x5 := cell_keep hb1' x5
  have HB := Lib.hid (HB.out.trans (hb1'.mono HB.out.size))
  have H3 := Lib.hid r3
  clear hb1' r3
  by_cases hr : r < 0
  · go_wp2
    go_ret
    exact ⟨rfl, HB.out⟩
  · have HN := Lib.hid (H3.out (by omega))
    clear H3
    go_wp2_with fail
    refine (TF.out _ HB.out HN.out).mono ?_
    rintro e w2 ⟨ub, uh, rfl, U1, U2, hb2'⟩
    have HU1 := Lib.hid U1
    have HU2 := Lib.hid U2
    have x0 := cell_keep hb2' x0
    have x1 := cell_keep hb2' x1
    have x2 := cell_keep hb2' x2
    have x3 := cell_keep hb2' x3
    have x4 := cell_keep hb2' x4
    have x5 := cell_keep hb2' x5
    have HB := Lib.hid (HB.out.trans (hb2'.mono HB.out.size))
    clear hb2' U1 U2
    go_wp2_with fail
    refine (specFv_c f ub uh _ HU1.out HU2.out).mono ?_
    rintro e w3 ⟨rfl, hb3'⟩
    have x0 := cell_keep hb3' x0
    have x1 := cell_keep hb3' x1
    have x2 := cell_keep hb3' x2
    have x3 := cell_keep hb3' x3
    have x4 := cell_keep hb3' x4
    have x5 := cell_keep hb3' x5
    have HB := Lib.hid (HB.out.trans (hb3'.mono HB.out.size))
    clear hb3' HU1 HU2
    go_wp2_with fail
    refine (TF.out _ HB.out HN.out).mono ?_
    rintro e w4 ⟨ub, uh, rfl, U1, U2, hb4'⟩
    have x0 := cell_keep hb4' x0
    have x1 := cell_keep hb4' x1
    have x2 := cell_keep hb4' x2
    have x3 := cell_keep hb4' x3
    have x4 := cell_keep hb4' x4
    have x5 := cell_keep hb4' x5
    have HB := Lib.hid (HB.out.trans (hb4'.mono HB.out.size))
    obtain ⟨W4, hW4⟩ : ∃ W4, W4 = w4.alloc (.cells #[.int .i64 f.pub, .int .i64 f.len, .int .i64 f.dig, .int .i64 f.sign, ub, uh] 39) := ⟨_, rfl⟩
    have hb5 : Below w4.heap.size w4 W4 := by rw [hW4]; (repeat' (first | exact Below.refl _ _ | assumption | refine Below.drew ?_ | refine below_drewN ?_ _ | refine Below.alloc ?_ (by omega) _ | refine Below.alloc ?_ (by simp; omega) _ | refine Below.alloc ?_ (by simp) _ | refine Below.setCell ?_ (by omega) _ | refine Below.setCell ?_ (by simp; omega) _ | refine Below.setCell ?_ (by simp) _))
    have HU1 := Lib.hid (U1.below hb5)
    have HU2 := Lib.hid (U2.below hb5)
    have y0 : W4.cell? ⟨w4.heap.size, 0, none⟩ = some (.int .i64 f.pub) := by rw [hW4]; exact cell_new rfl rfl
    have y1 : W4.cell? ⟨w4.heap.size, 1, none⟩ = some (.int .i64 f.len) := by rw [hW4]; exact cell_new rfl rfl
    have y2 : W4.cell? ⟨w4.heap.size, 2, none⟩ = some (.int .i64 f.dig) := by rw [hW4]; exact cell_new rfl rfl
    have y3 : W4.cell? ⟨w4.heap.size, 3, none⟩ = some (.int .i64 f.sign) := by rw [hW4]; exact cell_new rfl rfl
    have y4 : W4.cell? ⟨w4.heap.size, 4, none⟩ = some (ub) := by rw [hW4]; exact cell_new rfl rfl
    have y5 : W4.cell? ⟨w4.heap.size, 5, none⟩ = some (uh) := by rw [hW4]; exact cell_new rfl rfl
    have x0 := cell_keep hb5 x0
    have x1 := cell_keep hb5 x1
    have x2 := cell_keep hb5 x2
    have x3 := cell_keep hb5 x3
    have x4 := cell_keep hb5 x4
    have x5 := cell_keep hb5 x5
    have HB := Lib.hid (HB.out.trans (hb5.mono HB.out.size))
    clear hb4' hb5
    obtain ⟨-, a3, k3, rfl, g1, g2, -⟩ := U1
    obtain ⟨-, a4, k4, rfl, g3, g4, -⟩ := U2
    go_wp2_with fail
    rw [← hW4]
    clear hW4
    refine (impFv_c f _ _ _ HU1.out HU2.out).mono ?_
    rintro e w5 ⟨rfl, hb5'⟩
    have x0 := cell_keep hb5' x0
    have x1 := cell_keep hb5' x1
    have x2 := cell_keep hb5' x2
    have x3 := cell_keep hb5' x3
    have x4 := cell_keep hb5' x4
    have x5 := cell_keep hb5' x5
    have y0 := cell_keep hb5' y0
    have y1 := cell_keep hb5' y1
    have y2 := cell_keep hb5' y2
    have y3 := cell_keep hb5' y3
    have y4 := cell_keep hb5' y4
    have y5 := cell_keep hb5' y5
    have HB := Lib.hid (HB.out.trans (hb5'.mono HB.out.size))
    have HU1 := Lib.hid (HU1.out.below hb5')
    have HU2 := Lib.hid (HU2.out.below hb5')
    clear hb5'
    generalize fv f = q at *
    cases q
    all_goals
      go_wp2
      go_region_held3 (fun w' => w'.cell? ⟨w4.heap.size, 0, none⟩ = some (.int .i64 f.pub) ∧ w'.cell? ⟨w4.heap.size, 1, none⟩ = some (.int .i64 f.len) ∧ w'.cell? ⟨w4.heap.size, 2, none⟩ = some (.int .i64 f.dig) ∧ w'.cell? ⟨w4.heap.size, 3, none⟩ = some (.int .i64 f.sign) ∧ w'.cell? ⟨w4.heap.size, 4, none⟩ = some ((.slice a3 f.bs.length k3)) ∧ w'.cell? ⟨w4.heap.size, 5, none⟩ = some ((.slice a4 f.hv.length k4)) ∧ w'.cell? ⟨w.heap.size, 0, none⟩ = some (.int .i64 f.pub) ∧ w'.cell? ⟨w.heap.size, 1, none⟩ = some (.int .i64 f.len) ∧ w'.cell? ⟨w.heap.size, 2, none⟩ = some (.int .i64 f.dig) ∧ w'.cell? ⟨w.heap.size, 3, none⟩ = some (.int .i64 f.sign) ∧ w'.cell? ⟨w.heap.size, 4, none⟩ = some ((.slice a1 f.bs.length k1)) ∧ w'.cell? ⟨w.heap.size, 5, none⟩ = some ((.slice a2 f.hv.length k2))) (first | exact ⟨i0, i1, i2, i3, i4, i5, j0, j1, j2, j3, j4, j5⟩ | exact ⟨e0, e1, e2, e3, e4, e5, g0, g1, g2, g3, g4, g5⟩ | exact ⟨y0, y1, y2, y3, y4, y5, x0, x1, x2, x3, x4, x5⟩) ((first
        | ((with_reducible refine (TF.out _ HB.out.drew HN.out).mono ?_); rintro e w6 ⟨tb, th, rfl, T1, T2, hb6⟩; have BW6 := Lib.hid ((Below.refl w5.heap.size w5).drew.trans hb6); have HT1 := Lib.hid T1; have HT2 := Lib.hid T2; have e0 := cell_keep BW6.out y0; have g0 := cell_keep BW6.out x0; have e1 := cell_keep BW6.out y1; have g1 := cell_keep BW6.out x1; have e2 := cell_keep BW6.out y2; have g2 := cell_keep BW6.out x2; have e3 := cell_keep BW6.out y3; have g3 := cell_keep BW6.out x3; have e4 := cell_keep BW6.out y4; have g4 := cell_keep BW6.out x4; have e5 := cell_keep BW6.out y5; have g5 := cell_keep BW6.out x5; clear hb6 T1 T2)
        | ((with_reducible refine (eqFeed_c f _ _ _ _ _ (HU1.out.below BW6.out) (HU2.out.below BW6.out) HT1.out HT2.out).mono ?_); rintro e w7 ⟨rfl, hb7⟩; have BW7 := Lib.hid (BW6.out.trans (hb7.mono BW6.out.size)); have i0 := cell_keep hb7 e0; have j0 := cell_keep hb7 g0; have i1 := cell_keep hb7 e1; have j1 := cell_keep hb7 g1; have i2 := cell_keep hb7 e2; have j2 := cell_keep hb7 g2; have i3 := cell_keep hb7 e3; have j3 := cell_keep hb7 g3; have i4 := cell_keep hb7 e4; have j4 := cell_keep hb7 g4; have i5 := cell_keep hb7 e5; have j5 := cell_keep hb7 g5; clear hb7)))
      go_wp2
      go_ret
      exact ⟨rfl, HB.out.trans (BW7.out.mono HB.out.size)⟩
end Go.Proofs.Ytbjndbaljenlgaa
