/- The walk of the law FnForkMeet. -/
import Derived.Test.YtbjndbaljenlgaaDw
import Derived.Test.YtbjndbaljenlgaaFpP
import Derived.Laws.StructEq
namespace Go.Proofs.Ytbjndbaljenlgaa
open Go.RowKit
set_option linter.unusedSimpArgs false
set_option maxRecDepth 100000 in
set_option maxHeartbeats 3200000 in
theorem lawFnForkMeet_c (w : World) (v : Value) (n : Nat) (h : RdB w v n) : Calls Try.prog 12 #[v] w fun e w' => e = .returned (.bool true) ∧ Below w.heap.size w w' := by
  have H := Lib.hid h
  obtain ⟨a, cap, rfl, h1, h2, h3⟩ := h
  unfold maxLen at h2
  clear h3
  by_cases hl : (n : Int) > 1048576
  · go_enter Try.func12, Try.ntmps12
    go_wp2
    go_ret
    exact ⟨rfl, Below.refl _ _⟩
  · go_enter Try.func12, Try.ntmps12
    go_wp2_with fail
    refine (drawForkMeet_c _ n _ H.out).mono ?_
    rintro e w1 ⟨f, g, vb, vh, ub, uh, rfl, k1, k2, k3, k4, zf, zg, hb1⟩
    obtain ⟨a1, c1, rfl, -, -⟩ := k1.shape
    obtain ⟨a2, c2, rfl, -, -⟩ := k2.shape
    obtain ⟨a3, c3, rfl, -, -⟩ := k3.shape
    obtain ⟨a4, c4, rfl, -, -⟩ := k4.shape
    have IM := Lib.hid (fun W (hW : Below w1.heap.size w1 W) => impFm_c f g _ _ _ _ W (k1.below hW).rd (k2.below hW).rd (k3.below hW).rd (k4.below hW).rd)
    have SM := Lib.hid (fun W (hW : Below w1.heap.size w1 W) => specFm_c f g _ _ _ _ W (k1.below hW).rd (k2.below hW).rd (k3.below hW).rd (k4.below hW).rd)
    have BK := Lib.hid (fun W (hW : Below w1.heap.size w1 W) => impFm_c g f _ _ _ _ W (k3.below hW).rd (k4.below hW).rd (k1.below hW).rd (k2.below hW).rd)
    have SF := Lib.hid (fun W (hW : Below w1.heap.size w1 W) => specFv_c f _ _ W (k1.below hW).rd (k2.below hW).rd)
    have SG := Lib.hid (fun W (hW : Below w1.heap.size w1 W) => specFv_c g _ _ W (k3.below hW).rd (k4.below hW).rd)
    have HON := Lib.hid (fun (hf : fv f = true) (hg : fv g = true) (hp : f.pub = g.pub) => honest zf zg hf hg hp)
    have BOTH := Lib.hid (fun (h : fm f g = true) => fm_both h)
    clear k1 k2 k3 k4 zf zg
    obtain ⟨q, hq⟩ : ∃ q, fm f g = q := ⟨_, rfl⟩
    obtain ⟨qf, hqf⟩ : ∃ q, fv f = q := ⟨_, rfl⟩
    obtain ⟨qg, hqg⟩ : ∃ q, fv g = q := ⟨_, rfl⟩
    unfold MeetPost at IM SM
    rw [hq] at IM SM HON BOTH
    rw [hqf] at SF HON
    rw [hqg] at SG HON
    clear hq hqf hqg
    obtain ⟨p, len, dig, sign, bs, hv⟩ := f
    obtain ⟨gp, gen, gig, gign, gbs, ghv⟩ := g
    dsimp only at *
    obtain ⟨W1, hW1⟩ : ∃ W1, W1 = (w1.alloc (.cells #[.int .i64 p, .int .i64 len, .int .i64 dig, .int .i64 sign, .slice a1 bs.length c1, .slice a2 hv.length c2] 39)).alloc (.cells #[.int .i64 gp, .int .i64 gen, .int .i64 gig, .int .i64 gign, .slice a3 gbs.length c3, .slice a4 ghv.length c4] 39) := ⟨_, rfl⟩
    have hbW1 : Below w1.heap.size w1 W1 := by rw [hW1]; (repeat' (first | exact Below.refl _ _ | assumption | refine Below.drew ?_ | refine below_drewN ?_ _ | refine Below.alloc ?_ (by omega) _ | refine Below.alloc ?_ (by simp; omega) _ | refine Below.alloc ?_ (by simp) _ | refine Below.setCell ?_ (by omega) _ | refine Below.setCell ?_ (by simp; omega) _ | refine Below.setCell ?_ (by simp) _))
    have X := Lib.hid (show Bx W1 w1.heap.size p len dig sign (.slice a1 bs.length c1) (.slice a2 hv.length c2) by rw [hW1]; exact (Bx.new _ _).below (by (repeat' (first | exact Below.refl _ _ | assumption | refine Below.drew ?_ | refine below_drewN ?_ _ | refine Below.alloc ?_ (by omega) _ | refine Below.alloc ?_ (by simp; omega) _ | refine Below.alloc ?_ (by simp) _ | refine Below.setCell ?_ (by omega) _ | refine Below.setCell ?_ (by simp; omega) _ | refine Below.setCell ?_ (by simp) _))))
    have Z := Lib.hid (show Bx W1 (w1.heap.size + 1) gp gen gig gign (.slice a3 gbs.length c3) (.slice a4 ghv.length c4) by
      rw [hW1]
      have := Bx.new (p := gp) (len := gen) (dig := gig) (sign := gign) (vb := .slice a3 gbs.length c3) (vh := .slice a4 ghv.length c4) (w1.alloc (.cells #[.int .i64 p, .int .i64 len, .int .i64 dig, .int .i64 sign, .slice a1 bs.length c1, .slice a2 hv.length c2] 39)) 39
      simpa using this)
    have HB := Lib.hid (hb1.trans (hbW1.mono hb1.size))
    have D := Lib.hid hbW1
    clear hb1 hbW1 H
    have x0 := X.out.x0
    have x1 := X.out.x1
    have x2 := X.out.x2
    have x3 := X.out.x3
    have x4 := X.out.x4
    have x5 := X.out.x5
    have z0 := Z.out.x0
    have z1 := Z.out.x1
    have z2 := Z.out.x2
    have z3 := Z.out.x3
    have z4 := Z.out.x4
    have z5 := Z.out.x5
    go_upto_region 4 with (fail)
    rw [← hW1]
    clear hW1
    cases q
    · go_wp2_with fail
      refine (IM.out _ D.out).mono ?_
      rintro e w2 ⟨rfl, hb2⟩
      have X := Lib.hid (X.out.below hb2)
      have Z := Lib.hid (Z.out.below hb2)
      have HB := Lib.hid (HB.out.trans (hb2.mono HB.out.size))
      have D := Lib.hid (D.out.trans (hb2.mono D.out.size))
      clear hb2 x0 x1 x2 x3 x4 x5 z0 z1 z2 z3 z4 z5
      simp only [show ∀ p la da sa lb db sb, forkV false p la da sa lb db sb = .agg #[.int .i64 0, .int .i64 0, .int .i64 0, .int .i64 0, .int .i64 0, .int .i64 0, .int .i64 0] from fun _ _ _ _ _ _ _ => rfl]
      obtain ⟨W2, hW2⟩ : ∃ W2, W2 = w2.alloc (.cells #[.int .i64 0, .int .i64 0, .int .i64 0, .int .i64 0, .int .i64 0, .int .i64 0, .int .i64 0] 64) := ⟨_, rfl⟩
      have hbW2 : Below w2.heap.size w2 W2 := by rw [hW2]; (repeat' (first | exact Below.refl _ _ | assumption | refine Below.drew ?_ | refine below_drewN ?_ _ | refine Below.alloc ?_ (by omega) _ | refine Below.alloc ?_ (by simp; omega) _ | refine Below.alloc ?_ (by simp) _ | refine Below.setCell ?_ (by omega) _ | refine Below.setCell ?_ (by simp; omega) _ | refine Below.setCell ?_ (by simp) _))
      have p0 : W2.cell? ⟨w2.heap.size, 0, none⟩ = some (.int .i64 0) := by rw [hW2]; exact cell_new rfl rfl
      have p1 : W2.cell? ⟨w2.heap.size, 1, none⟩ = some (.int .i64 0) := by rw [hW2]; exact cell_new rfl rfl
      have p2 : W2.cell? ⟨w2.heap.size, 2, none⟩ = some (.int .i64 0) := by rw [hW2]; exact cell_new rfl rfl
      have p3 : W2.cell? ⟨w2.heap.size, 3, none⟩ = some (.int .i64 0) := by rw [hW2]; exact cell_new rfl rfl
      have p4 : W2.cell? ⟨w2.heap.size, 4, none⟩ = some (.int .i64 0) := by rw [hW2]; exact cell_new rfl rfl
      have p5 : W2.cell? ⟨w2.heap.size, 5, none⟩ = some (.int .i64 0) := by rw [hW2]; exact cell_new rfl rfl
      have p6 : W2.cell? ⟨w2.heap.size, 6, none⟩ = some (.int .i64 0) := by rw [hW2]; exact cell_new rfl rfl
      have X := Lib.hid (X.out.below hbW2)
      have Z := Lib.hid (Z.out.below hbW2)
      have HB := Lib.hid (HB.out.trans (hbW2.mono HB.out.size))
      have D := Lib.hid (D.out.trans (hbW2.mono D.out.size))
      clear hbW2
      have x0 := X.out.x0
      have x1 := X.out.x1
      have x2 := X.out.x2
      have x3 := X.out.x3
      have x4 := X.out.x4
      have x5 := X.out.x5
      have z0 := Z.out.x0
      have z1 := Z.out.x1
      have z2 := Z.out.x2
      have z3 := Z.out.x3
      have z4 := Z.out.x4
      have z5 := Z.out.x5
      go_upto_region 5 with (fail)
      rw [← hW2]
      clear hW2
      go_wp2_with fail
      refine (SM.out _ D.out).mono ?_
      rintro e w3 ⟨rfl, hb3⟩
      simp only [show ∀ p la da sa lb db sb, forkV false p la da sa lb db sb = .agg #[.int .i64 0, .int .i64 0, .int .i64 0, .int .i64 0, .int .i64 0, .int .i64 0, .int .i64 0] from fun _ _ _ _ _ _ _ => rfl]
      obtain ⟨W3, hW3⟩ : ∃ W3, W3 = w3.alloc (.cells #[.int .i64 0, .int .i64 0, .int .i64 0, .int .i64 0, .int .i64 0, .int .i64 0, .int .i64 0] 64) := ⟨_, rfl⟩
      have hbW3 : Below w3.heap.size w3 W3 := by rw [hW3]; (repeat' (first | exact Below.refl _ _ | assumption | refine Below.drew ?_ | refine below_drewN ?_ _ | refine Below.alloc ?_ (by omega) _ | refine Below.alloc ?_ (by simp; omega) _ | refine Below.alloc ?_ (by simp) _ | refine Below.setCell ?_ (by omega) _ | refine Below.setCell ?_ (by simp; omega) _ | refine Below.setCell ?_ (by simp) _))
      have hb3 := hb3.trans (hbW3.mono hb3.size)
      have r0 : W3.cell? ⟨w3.heap.size, 0, none⟩ = some (.int .i64 0) := by rw [hW3]; exact cell_new rfl rfl
      have r1 : W3.cell? ⟨w3.heap.size, 1, none⟩ = some (.int .i64 0) := by rw [hW3]; exact cell_new rfl rfl
      have r2 : W3.cell? ⟨w3.heap.size, 2, none⟩ = some (.int .i64 0) := by rw [hW3]; exact cell_new rfl rfl
      have r3 : W3.cell? ⟨w3.heap.size, 3, none⟩ = some (.int .i64 0) := by rw [hW3]; exact cell_new rfl rfl
      have r4 : W3.cell? ⟨w3.heap.size, 4, none⟩ = some (.int .i64 0) := by rw [hW3]; exact cell_new rfl rfl
      have r5 : W3.cell? ⟨w3.heap.size, 5, none⟩ = some (.int .i64 0) := by rw [hW3]; exact cell_new rfl rfl
      have r6 : W3.cell? ⟨w3.heap.size, 6, none⟩ = some (.int .i64 0) := by rw [hW3]; exact cell_new rfl rfl
      have p0 := cell_keep hb3 p0
      have p1 := cell_keep hb3 p1
      have p2 := cell_keep hb3 p2
      have p3 := cell_keep hb3 p3
      have p4 := cell_keep hb3 p4
      have p5 := cell_keep hb3 p5
      have p6 := cell_keep hb3 p6
      have X := Lib.hid (X.out.below hb3)
      have Z := Lib.hid (Z.out.below hb3)
      have HB := Lib.hid (HB.out.trans (hb3.mono HB.out.size))
      have D := Lib.hid (D.out.trans (hb3.mono D.out.size))
      clear hb3 hbW3 x0 x1 x2 x3 x4 x5 z0 z1 z2 z3 z4 z5
      have x0 := X.out.x0
      have x1 := X.out.x1
      have x2 := X.out.x2
      have x3 := X.out.x3
      have x4 := X.out.x4
      have x5 := X.out.x5
      have z0 := Z.out.x0
      have z1 := Z.out.x1
      have z2 := Z.out.x2
      have z3 := Z.out.x3
      have z4 := Z.out.x4
      have z5 := Z.out.x5
      go_upto_region 6 with (fail)
      rw [← hW3]
      clear hW3
      go_wp2
      go_ret
      exact ⟨rfl, HB.out⟩
    · go_wp2_with fail
      refine (IM.out _ D.out).mono ?_
      rintro e w2 ⟨rfl, hb2⟩
      have X := Lib.hid (X.out.below hb2)
      have Z := Lib.hid (Z.out.below hb2)
      have HB := Lib.hid (HB.out.trans (hb2.mono HB.out.size))
      have D := Lib.hid (D.out.trans (hb2.mono D.out.size))
      clear hb2 x0 x1 x2 x3 x4 x5 z0 z1 z2 z3 z4 z5
      simp only [show ∀ p la da sa lb db sb, forkV true p la da sa lb db sb = .agg #[.int .i64 p, .int .i64 la, .int .i64 da, .int .i64 sa, .int .i64 lb, .int .i64 db, .int .i64 sb] from fun _ _ _ _ _ _ _ => rfl]
      obtain ⟨W2, hW2⟩ : ∃ W2, W2 = w2.alloc (.cells #[.int .i64 p, .int .i64 len, .int .i64 dig, .int .i64 sign, .int .i64 gen, .int .i64 gig, .int .i64 gign] 64) := ⟨_, rfl⟩
      have hbW2 : Below w2.heap.size w2 W2 := by rw [hW2]; (repeat' (first | exact Below.refl _ _ | assumption | refine Below.drew ?_ | refine below_drewN ?_ _ | refine Below.alloc ?_ (by omega) _ | refine Below.alloc ?_ (by simp; omega) _ | refine Below.alloc ?_ (by simp) _ | refine Below.setCell ?_ (by omega) _ | refine Below.setCell ?_ (by simp; omega) _ | refine Below.setCell ?_ (by simp) _))
      have p0 : W2.cell? ⟨w2.heap.size, 0, none⟩ = some (.int .i64 p) := by rw [hW2]; exact cell_new rfl rfl
      have p1 : W2.cell? ⟨w2.heap.size, 1, none⟩ = some (.int .i64 len) := by rw [hW2]; exact cell_new rfl rfl
      have p2 : W2.cell? ⟨w2.heap.size, 2, none⟩ = some (.int .i64 dig) := by rw [hW2]; exact cell_new rfl rfl
      have p3 : W2.cell? ⟨w2.heap.size, 3, none⟩ = some (.int .i64 sign) := by rw [hW2]; exact cell_new rfl rfl
      have p4 : W2.cell? ⟨w2.heap.size, 4, none⟩ = some (.int .i64 gen) := by rw [hW2]; exact cell_new rfl rfl
      have p5 : W2.cell? ⟨w2.heap.size, 5, none⟩ = some (.int .i64 gig) := by rw [hW2]; exact cell_new rfl rfl
      have p6 : W2.cell? ⟨w2.heap.size, 6, none⟩ = some (.int .i64 gign) := by rw [hW2]; exact cell_new rfl rfl
      have X := Lib.hid (X.out.below hbW2)
      have Z := Lib.hid (Z.out.below hbW2)
      have HB := Lib.hid (HB.out.trans (hbW2.mono HB.out.size))
      have D := Lib.hid (D.out.trans (hbW2.mono D.out.size))
      clear hbW2
      have x0 := X.out.x0
      have x1 := X.out.x1
      have x2 := X.out.x2
      have x3 := X.out.x3
      have x4 := X.out.x4
      have x5 := X.out.x5
      have z0 := Z.out.x0
      have z1 := Z.out.x1
      have z2 := Z.out.x2
      have z3 := Z.out.x3
      have z4 := Z.out.x4
      have z5 := Z.out.x5
      go_upto_region 5 with (fail)
      rw [← hW2]
      clear hW2
      go_wp2_with fail
      refine (SM.out _ D.out).mono ?_
      rintro e w3 ⟨rfl, hb3⟩
      simp only [show ∀ p la da sa lb db sb, forkV true p la da sa lb db sb = .agg #[.int .i64 p, .int .i64 la, .int .i64 da, .int .i64 sa, .int .i64 lb, .int .i64 db, .int .i64 sb] from fun _ _ _ _ _ _ _ => rfl]
      obtain ⟨W3, hW3⟩ : ∃ W3, W3 = w3.alloc (.cells #[.int .i64 p, .int .i64 len, .int .i64 dig, .int .i64 sign, .int .i64 gen, .int .i64 gig, .int .i64 gign] 64) := ⟨_, rfl⟩
      have hbW3 : Below w3.heap.size w3 W3 := by rw [hW3]; (repeat' (first | exact Below.refl _ _ | assumption | refine Below.drew ?_ | refine below_drewN ?_ _ | refine Below.alloc ?_ (by omega) _ | refine Below.alloc ?_ (by simp; omega) _ | refine Below.alloc ?_ (by simp) _ | refine Below.setCell ?_ (by omega) _ | refine Below.setCell ?_ (by simp; omega) _ | refine Below.setCell ?_ (by simp) _))
      have hb3 := hb3.trans (hbW3.mono hb3.size)
      have r0 : W3.cell? ⟨w3.heap.size, 0, none⟩ = some (.int .i64 p) := by rw [hW3]; exact cell_new rfl rfl
      have r1 : W3.cell? ⟨w3.heap.size, 1, none⟩ = some (.int .i64 len) := by rw [hW3]; exact cell_new rfl rfl
      have r2 : W3.cell? ⟨w3.heap.size, 2, none⟩ = some (.int .i64 dig) := by rw [hW3]; exact cell_new rfl rfl
      have r3 : W3.cell? ⟨w3.heap.size, 3, none⟩ = some (.int .i64 sign) := by rw [hW3]; exact cell_new rfl rfl
      have r4 : W3.cell? ⟨w3.heap.size, 4, none⟩ = some (.int .i64 gen) := by rw [hW3]; exact cell_new rfl rfl
      have r5 : W3.cell? ⟨w3.heap.size, 5, none⟩ = some (.int .i64 gig) := by rw [hW3]; exact cell_new rfl rfl
      have r6 : W3.cell? ⟨w3.heap.size, 6, none⟩ = some (.int .i64 gign) := by rw [hW3]; exact cell_new rfl rfl
      have p0 := cell_keep hb3 p0
      have p1 := cell_keep hb3 p1
      have p2 := cell_keep hb3 p2
      have p3 := cell_keep hb3 p3
      have p4 := cell_keep hb3 p4
      have p5 := cell_keep hb3 p5
      have p6 := cell_keep hb3 p6
      have X := Lib.hid (X.out.below hb3)
      have Z := Lib.hid (Z.out.below hb3)
      have HB := Lib.hid (HB.out.trans (hb3.mono HB.out.size))
      have D := Lib.hid (D.out.trans (hb3.mono D.out.size))
      clear hb3 hbW3 x0 x1 x2 x3 x4 x5 z0 z1 z2 z3 z4 z5
      have x0 := X.out.x0
      have x1 := X.out.x1
      have x2 := X.out.x2
      have x3 := X.out.x3
      have x4 := X.out.x4
      have x5 := X.out.x5
      have z0 := Z.out.x0
      have z1 := Z.out.x1
      have z2 := Z.out.x2
      have z3 := Z.out.x3
      have z4 := Z.out.x4
      have z5 := Z.out.x5
      go_upto_region 6 with (fail)
      rw [← hW3]
      clear hW3
      have BT := Lib.hid (BOTH.out (by trivial))
      have BK2 := Lib.hid (fun W (hW : Below w1.heap.size w1 W) => (show Calls _ _ _ _ (fun e w' => e = .returned (.tuple #[forkV true gp gen gig gign len dig sign, .bool true]) ∧ Below W.heap.size W w') from by have := BK.out W hW; unfold MeetPost at this; rw [BT.out.1] at this; exact this))
      clear BK BOTH
      have hpp : p = gp := BT.out.2.2
      subst hpp
      go_wp2_with fail
      refine (BK2.out _ D.out).mono ?_
      rintro e w4 ⟨rfl, hb4⟩
      simp only [show ∀ p la da sa lb db sb, forkV true p la da sa lb db sb = .agg #[.int .i64 p, .int .i64 la, .int .i64 da, .int .i64 sa, .int .i64 lb, .int .i64 db, .int .i64 sb] from fun _ _ _ _ _ _ _ => rfl]
      obtain ⟨W4, hW4⟩ : ∃ W4, W4 = w4.alloc (.cells #[.int .i64 p, .int .i64 gen, .int .i64 gig, .int .i64 gign, .int .i64 len, .int .i64 dig, .int .i64 sign] 64) := ⟨_, rfl⟩
      have hbW4 : Below w4.heap.size w4 W4 := by rw [hW4]; (repeat' (first | exact Below.refl _ _ | assumption | refine Below.drew ?_ | refine below_drewN ?_ _ | refine Below.alloc ?_ (by omega) _ | refine Below.alloc ?_ (by simp; omega) _ | refine Below.alloc ?_ (by simp) _ | refine Below.setCell ?_ (by omega) _ | refine Below.setCell ?_ (by simp; omega) _ | refine Below.setCell ?_ (by simp) _))
      have hb4 := hb4.trans (hbW4.mono hb4.size)
      clear hbW4
      have X := Lib.hid (X.out.below hb4)
      have Z := Lib.hid (Z.out.below hb4)
      have HB := Lib.hid (HB.out.trans (hb4.mono HB.out.size))
      have D := Lib.hid (D.out.trans (hb4.mono D.out.size))
      have p0 := cell_keep hb4 p0
      have p1 := cell_keep hb4 p1
      have p2 := cell_keep hb4 p2
      have p3 := cell_keep hb4 p3
      have p4 := cell_keep hb4 p4
      have p5 := cell_keep hb4 p5
      have p6 := cell_keep hb4 p6
      have r0 := cell_keep hb4 r0
      have r1 := cell_keep hb4 r1
      have r2 := cell_keep hb4 r2
      have r3 := cell_keep hb4 r3
      have r4 := cell_keep hb4 r4
      have r5 := cell_keep hb4 r5
      have r6 := cell_keep hb4 r6
      clear hb4 x0 x1 x2 x3 x4 x5 z0 z1 z2 z3 z4 z5
      have x0 := X.out.x0
      have x1 := X.out.x1
      have x2 := X.out.x2
      have x3 := X.out.x3
      have x4 := X.out.x4
      have x5 := X.out.x5
      have z0 := Z.out.x0
      have z1 := Z.out.x1
      have z2 := Z.out.x2
      have z3 := Z.out.x3
      have z4 := Z.out.x4
      have z5 := Z.out.x5
      go_upto_region 9 with (fail)
      rw [← hW4]
      clear hW4
      have FC := Lib.hid (fun W => (show Calls _ _ _ _ (fun e w' => e = .returned (.bool true) ∧ Below W.heap.size W w') from by have := impFc_c p len dig sign gen gig gign W; rw [BT.out.2.1] at this; exact this))
      go_wp2_with fail
      refine (FC.out _).mono ?_
      rintro e w5 ⟨rfl, hb5⟩
      have X := Lib.hid (X.out.below hb5)
      have Z := Lib.hid (Z.out.below hb5)
      have HB := Lib.hid (HB.out.trans (hb5.mono HB.out.size))
      have D := Lib.hid (D.out.trans (hb5.mono D.out.size))
      have p0 := cell_keep hb5 p0
      have p1 := cell_keep hb5 p1
      have p2 := cell_keep hb5 p2
      have p3 := cell_keep hb5 p3
      have p4 := cell_keep hb5 p4
      have p5 := cell_keep hb5 p5
      have p6 := cell_keep hb5 p6
      have r0 := cell_keep hb5 r0
      have r1 := cell_keep hb5 r1
      have r2 := cell_keep hb5 r2
      have r3 := cell_keep hb5 r3
      have r4 := cell_keep hb5 r4
      have r5 := cell_keep hb5 r5
      have r6 := cell_keep hb5 r6
      clear hb5 x0 x1 x2 x3 x4 x5 z0 z1 z2 z3 z4 z5
      have x0 := X.out.x0
      have x1 := X.out.x1
      have x2 := X.out.x2
      have x3 := X.out.x3
      have x4 := X.out.x4
      have x5 := X.out.x5
      have z0 := Z.out.x0
      have z1 := Z.out.x1
      have z2 := Z.out.x2
      have z3 := Z.out.x3
      have z4 := Z.out.x4
      have z5 := Z.out.x5
      go_wp2
      go_ret
      exact ⟨rfl, HB.out⟩
end Go.Proofs.Ytbjndbaljenlgaa
