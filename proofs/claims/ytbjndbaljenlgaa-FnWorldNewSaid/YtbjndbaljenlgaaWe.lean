/- The contract of WorldValid at new runs. -/
import Derived.Test.YtbjndbaljenlgaaWd
namespace Go.Proofs.Ytbjndbaljenlgaa
open Go.RowKit
set_option linter.unusedSimpArgs false
theorem windowValid_c (v : Value) (h : Em v) (w : World) : Calls Try.prog 55 #[v] w fun e w' => e = .returned (.bool true) ∧ w = w' := by
  obtain ⟨a1, c1, rfl, -⟩ := h
  go_enter Try.func55, Try.ntmps55
  go_wp2
  go_loopw [7, 3, 4] (fun i _ _ wr => i = .int .i64 0 ∧ w = wr) (fun _ _ _ _ => 0)
  case atStart => exact ⟨rfl, rfl⟩
  case round =>
    obtain ⟨rfl, rfl⟩ := hrel
    go_wp2
    go_ret
    exact ⟨rfl, rfl⟩
theorem linksRight_c (B : Nat) (aL : Option Addr) (cL : Nat) (w : World) (x3 : w.cell? ⟨B, 3, none⟩ = some (.slice aL 0 cL)) : Calls Try.prog 53 #[.pointer (some ⟨B, 0, none⟩)] w fun e w' => e = .returned (.bool true) ∧ w = w' := by
  go_enter Try.func53, Try.ntmps53
  go_wp2
  go_loopw [10, 3, 4] (fun i _ _ wr => i = .int .i64 0 ∧ w = wr) (fun _ _ _ _ => 0)
  case atStart => exact ⟨rfl, rfl⟩
  case round =>
    obtain ⟨rfl, rfl⟩ := hrel
    go_wp2
    go_ret
    exact ⟨rfl, rfl⟩
set_option maxHeartbeats 1600000 in
theorem feedRight_c (B n : Nat) (aF : Option Addr) (cF : Nat) (s kk : Int) (ab ah : Option Addr) (cb ch : Nat) (w : World) (hk : inB 1 996 kk = true) (hkk : hpub s = kk) (hn : 0 < n) (hn6 : n ≤ 6) (hF : FsR w (.slice aF n cF) n kk) (x0 : w.cell? ⟨B, 0, none⟩ = some (.int .i64 s)) (x2 : w.cell? ⟨B, 2, none⟩ = some (.slice aF n cF)) (E1 : Em (.slice ab 0 cb)) (E2 : Em (.slice ah 0 ch)) :
    Calls Try.prog 54 #[.pointer (some ⟨B, 0, none⟩), .agg #[.int .i64 kk, .int .i64 0, .int .i64 0, .int .i64 0, .slice ab 0 cb, .slice ah 0 ch]] w (RetBool true w) := by
  have hfv : fv ⟨kk, 0, 0, 0, [], []⟩ = true := by
    have := ef_fv kk hk
    unfold ef np at this
    rwa [if_pos hk] at this
  obtain ⟨b1, o1, ub, db, uh, dh, rfl, -, -, p0, p1, -, -, -, -⟩ := hF.at hn
  simp only [Nat.zero_mul, Nat.add_zero] at p0 p1
  obtain ⟨a', cap', e, q1, q2, -⟩ := hF
  simp only [Value.slice.injEq, true_and] at e
  obtain ⟨-, rfl⟩ := e
  unfold maxLen at q2
  obtain ⟨W0, hW0⟩ : ∃ W0, W0 = w.alloc (.cells #[.int .i64 kk, .int .i64 0, .int .i64 0, .int .i64 0, .slice ab 0 cb, .slice ah 0 ch] 39) := ⟨_, rfl⟩
  have hB0 : Below w.heap.size w W0 := by rw [hW0]; (repeat' (first | exact Below.refl _ _ | assumption | refine Below.drew ?_ | refine below_drewN ?_ _ | refine Below.alloc ?_ (by omega) _ | refine Below.alloc ?_ (by simp; omega) _ | refine Below.alloc ?_ (by simp) _ | refine Below.setCell ?_ (by omega) _ | refine Below.setCell ?_ (by simp; omega) _ | refine Below.setCell ?_ (by simp) _))
  have y0 : W0.cell? ⟨w.heap.size, 0, none⟩ = some (.int .i64 kk) := by rw [hW0]; exact cell_new rfl rfl
  have y1 : W0.cell? ⟨w.heap.size, 1, none⟩ = some (.int .i64 0) := by rw [hW0]; exact cell_new rfl rfl
  have y2 : W0.cell? ⟨w.heap.size, 2, none⟩ = some (.int .i64 0) := by rw [hW0]; exact cell_new rfl rfl
  have y3 : W0.cell? ⟨w.heap.size, 3, none⟩ = some (.int .i64 0) := by rw [hW0]; exact cell_new rfl rfl
  have y4 : W0.cell? ⟨w.heap.size, 4, none⟩ = some (.slice ab 0 cb) := by rw [hW0]; exact cell_new rfl rfl
  have y5 : W0.cell? ⟨w.heap.size, 5, none⟩ = some (.slice ah 0 ch) := by rw [hW0]; exact cell_new rfl rfl
  have x0 := cell_keep hB0 x0
  have x2 := cell_keep hB0 x2
  have p0 := cell_keep hB0 p0
  have p1 := cell_keep hB0 p1
  have HB := Lib.hid hB0
  have FVc := Lib.hid (fun (W : World) (hW : Below W0.heap.size W0 W) => (show Calls Try.prog 23 #[.agg #[.int .i64 kk, .int .i64 0, .int .i64 0, .int .i64 0, .slice ab 0 cb, .slice ah 0 ch]] W (fun e w' => e = .returned (.bool true) ∧ Below W.heap.size W w') from by
    have := impFv_c ⟨kk, 0, 0, 0, [], []⟩ (.slice ab 0 cb) (.slice ah 0 ch) W (E1.rd 1 W) (E2.rd 1 W)
    rw [hfv] at this
    exact this))
  have HPc := Lib.hid (fun (W : World) => (show Calls Try.prog 17 #[.int .i64 s] W (fun e w' => e = .returned (.int .i64 kk) ∧ W = w') from by
    have := impPub_c s W
    rw [hkk] at this
    exact this))
  have hn0 : ¬ n = 0 := by omega
  have hni : (0 : Int) < (n : Int) := by omega
  clear hB0 hfv hk hkk E1 E2
  go_enter Try.func54, Try.ntmps54
  go_upto_region 1 with (fail)
  rw [← hW0]
  clear hW0
  have zy0 := fun (xx : Sub W0) => xx.cell y0
  have zy1 := fun (xx : Sub W0) => xx.cell y1
  have zy2 := fun (xx : Sub W0) => xx.cell y2
  have zy3 := fun (xx : Sub W0) => xx.cell y3
  have zy4 := fun (xx : Sub W0) => xx.cell y4
  have zy5 := fun (xx : Sub W0) => xx.cell y5
  have zx0 := fun (xx : Sub W0) => xx.cell x0
  have zx2 := fun (xx : Sub W0) => xx.cell x2
  have zp0 := fun (xx : Sub W0) => xx.cell p0
  have zp1 := fun (xx : Sub W0) => xx.cell p1
  refine wp_region_sub (by kernel_rfl) (by kernel_rfl) ?_
  repeat (go_big_quiet_step (with_reducible (first | exact Calls.sub (v := .bool true) FVc.out | exact Calls.sub_same (v := .int .i64 kk) (fun W _ => HPc.out W))))
  refine wpQuiet_nil ?_
  rintro _ ⟨xs, rfl⟩
  have HX := Lib.hid (HB.out.trans (xs.b.mono HB.out.size))
  have y1 := zy1 xs
  go_wp2
  go_ret
  exact ⟨rfl, HX.out⟩
set_option maxRecDepth 100000 in
set_option maxHeartbeats 3200000 in
theorem worldValid_c (s b kk : Int) (n : Nat) (vF vL vA vN : Value) (w : World) (hn : 0 < n) (hn6 : n ≤ 6) (hsv : sv s n b = true) (hk : inB 1 996 kk = true) (hkk : hpub s = kk) (hF : FsR w vF n kk) (hA : AsR w vA n) (hL : Em vL) (hN : Em vN) :
    Calls Try.prog 18 #[.agg #[.int .i64 s, .int .i64 b, vF, vL, vA, vN]] w (RetBool true w) := by
  obtain ⟨aF, cF, rfl, f1, f2⟩ := hF.shape
  obtain ⟨aA, cA, rfl, g1, g2⟩ := hA.shape
  obtain ⟨aL, cL, rfl, -⟩ := hL
  obtain ⟨aN, cN, rfl, -⟩ := hN
  unfold maxLen at f2 g2
  have hfv : fv ⟨kk, 0, 0, 0, [], []⟩ = true := by
    have := ef_fv kk hk
    unfold ef np at this
    rwa [if_pos hk] at this
  have FVc := Lib.hid (fun (W : World) (ab ah : Option Addr) (cb ch : Nat) (E1 : Em (.slice ab 0 cb)) (E2 : Em (.slice ah 0 ch)) => (show Calls Try.prog 23 #[.agg #[.int .i64 kk, .int .i64 0, .int .i64 0, .int .i64 0, .slice ab 0 cb, .slice ah 0 ch]] W (fun e w' => e = .returned (.bool true) ∧ Below W.heap.size W w') from by
    have := impFv_c ⟨kk, 0, 0, 0, [], []⟩ (.slice ab 0 cb) (.slice ah 0 ch) W (E1.rd 1 W) (E2.rd 1 W)
    rw [hfv] at this
    exact this))
  have WHc := Lib.hid (fun (W : World) (ab ah : Option Addr) (cb ch : Nat) (E2 : Em (.slice ah 0 ch)) => (show Calls Try.prog 52 #[.agg #[.int .i64 kk, .int .i64 0, .int .i64 0, .int .i64 0, .slice ab 0 cb, .slice ah 0 ch]] W (fun e w' => e = .returned (.bool true) ∧ Below W.heap.size W w') from by
    have := whole_c kk 0 0 0 (.slice ab 0 cb) (.slice ah 0 ch) [] W (E2.rd 1 W) (by simp)
    rw [show decide (cnt [] = ([] : List Bool).length) = true by simp [cnt]] at this
    exact this))
  have SC := Lib.hid (fun W => (show Calls Try.prog 46 #[.int .i64 s, .int .i64 n, .int .i64 b] W (fun e w' => e = .returned (.bool true) ∧ W = w') from by
    have := setting_c s n b W (by omega) (by omega)
    rw [hsv] at this
    exact this))
  obtain ⟨W0, hW0⟩ : ∃ W0, W0 = w.alloc (.cells #[.int .i64 s, .int .i64 b, .slice aF n cF, .slice aL 0 cL, .slice aA n cA, .slice aN 0 cN] 30) := ⟨_, rfl⟩
  have hB0 : Below w.heap.size w W0 := by rw [hW0]; (repeat' (first | exact Below.refl _ _ | assumption | refine Below.drew ?_ | refine below_drewN ?_ _ | refine Below.alloc ?_ (by omega) _ | refine Below.alloc ?_ (by simp; omega) _ | refine Below.alloc ?_ (by simp) _ | refine Below.setCell ?_ (by omega) _ | refine Below.setCell ?_ (by simp; omega) _ | refine Below.setCell ?_ (by simp) _))
  have x0 : W0.cell? ⟨w.heap.size, 0, none⟩ = some (.int .i64 s) := by rw [hW0]; exact cell_new rfl rfl
  have x1 : W0.cell? ⟨w.heap.size, 1, none⟩ = some (.int .i64 b) := by rw [hW0]; exact cell_new rfl rfl
  have x2 : W0.cell? ⟨w.heap.size, 2, none⟩ = some (.slice aF n cF) := by rw [hW0]; exact cell_new rfl rfl
  have x3 : W0.cell? ⟨w.heap.size, 3, none⟩ = some (.slice aL 0 cL) := by rw [hW0]; exact cell_new rfl rfl
  have x4 : W0.cell? ⟨w.heap.size, 4, none⟩ = some (.slice aA n cA) := by rw [hW0]; exact cell_new rfl rfl
  have x5 : W0.cell? ⟨w.heap.size, 5, none⟩ = some (.slice aN 0 cN) := by rw [hW0]; exact cell_new rfl rfl
  have HB := Lib.hid hB0
  have HF := Lib.hid hF
  have HA := Lib.hid hA
  have HK := Lib.hid (And.intro hk hkk)
  obtain ⟨b1, o1, ab, cb, ah, ch, haF, E1, E2, p0, p1, p2, p3, p4, p5⟩ := (hF.below hB0).at hn
  subst haF
  simp only [Nat.zero_mul, Nat.add_zero] at p0 p1 p2 p3 p4 p5
  have hni : (0 : Int) < (n : Int) := by omega
  clear hB0 hfv hF hA hsv hk hkk
  go_enter Try.func18, Try.ntmps18
  go_wp2_with fail
  rw [← hW0]
  clear hW0
  refine (SC.out _).mono ?_
  rintro e w' ⟨rfl, rfl⟩
  go_wp2_with fail
  refine (FVc.out _ _ _ _ _ E1 E2).mono ?_
  rintro e w1 ⟨rfl, hb1⟩
  have x0 := cell_keep hb1 x0
  have x1 := cell_keep hb1 x1
  have x2 := cell_keep hb1 x2
  have x3 := cell_keep hb1 x3
  have x4 := cell_keep hb1 x4
  have x5 := cell_keep hb1 x5
  have p0 := cell_keep hb1 p0
  have p1 := cell_keep hb1 p1
  have p2 := cell_keep hb1 p2
  have p3 := cell_keep hb1 p3
  have p4 := cell_keep hb1 p4
  have p5 := cell_keep hb1 p5
  have HB := Lib.hid (HB.out.trans (hb1.mono HB.out.size))
  clear hb1
  go_wp2_with fail
  refine (WHc.out _ _ _ _ _ E2).mono ?_
  rintro e w2 ⟨rfl, hb2⟩
  have x0 := cell_keep hb2 x0
  have x1 := cell_keep hb2 x1
  have x2 := cell_keep hb2 x2
  have x3 := cell_keep hb2 x3
  have x4 := cell_keep hb2 x4
  have x5 := cell_keep hb2 x5
  have p0 := cell_keep hb2 p0
  have p1 := cell_keep hb2 p1
  have p2 := cell_keep hb2 p2
  have p3 := cell_keep hb2 p3
  have p4 := cell_keep hb2 p4
  have p5 := cell_keep hb2 p5
  have HB := Lib.hid (HB.out.trans (hb2.mono HB.out.size))
  clear hb2
  clear p0 p1 p2 p3 p4 p5 E1 E2
  go_wp2_with fail
  refine (linksRight_c _ _ _ _ x3).mono ?_
  rintro e w' ⟨rfl, rfl⟩
  go_wp2
  go_loopw [52, 3, 4] (fun i _ _ wr => ∃ i' : Nat, i' ≤ n ∧ i = .int .i64 i' ∧ Hid (Below w2.heap.size w2 wr)) (fun i _ _ _ => n - (intOf i).toNat)
  case atStart => exact ⟨0, Nat.zero_le _, rfl, Lib.hid (Below.refl _ _)⟩
  case round =>
    obtain ⟨i, hi, rfl, HI⟩ := hrel
    have x0 := cell_keep HI.out x0
    have x2 := cell_keep HI.out x2
    have x4 := cell_keep HI.out x4
    have x5 := cell_keep HI.out x5
    by_cases hlt : i < n
    · have hlti : (i : Int) < (n : Int) := by omega
      have HBr := Lib.hid (HB.out.trans (HI.out.mono HB.out.size))
      have hFr := HF.out.below HBr.out
      obtain ⟨b2, o2, ab, cb, ah, ch, hq, E1, E2, p0, p1, p2, p3, p4, p5⟩ := hFr.at hlt
      injection hq with hq
      injection hq with hq1 hq2 _
      subst hq1 hq2
      obtain ⟨b3, o3, au, cu, hq, E3, u0⟩ := (HA.out.below HBr.out).at hlt
      subst hq
      obtain ⟨W4, hW4⟩ : ∃ W4, W4 = wr.alloc (.cells #[.int .i64 kk, .int .i64 0, .int .i64 0, .int .i64 0, .slice ab 0 cb, .slice ah 0 ch] 39) := ⟨_, rfl⟩
      have hb4 : Below wr.heap.size wr W4 := by rw [hW4]; (repeat' (first | exact Below.refl _ _ | assumption | refine Below.drew ?_ | refine below_drewN ?_ _ | refine Below.alloc ?_ (by omega) _ | refine Below.alloc ?_ (by simp; omega) _ | refine Below.alloc ?_ (by simp) _ | refine Below.setCell ?_ (by omega) _ | refine Below.setCell ?_ (by simp; omega) _ | refine Below.setCell ?_ (by simp) _))
      have y0 : W4.cell? ⟨wr.heap.size, 0, none⟩ = some (.int .i64 kk) := by rw [hW4]; exact cell_new rfl rfl
      have y1 : W4.cell? ⟨wr.heap.size, 1, none⟩ = some (.int .i64 0) := by rw [hW4]; exact cell_new rfl rfl
      have y2 : W4.cell? ⟨wr.heap.size, 2, none⟩ = some (.int .i64 0) := by rw [hW4]; exact cell_new rfl rfl
      have y3 : W4.cell? ⟨wr.heap.size, 3, none⟩ = some (.int .i64 0) := by rw [hW4]; exact cell_new rfl rfl
      have y4 : W4.cell? ⟨wr.heap.size, 4, none⟩ = some (.slice ab 0 cb) := by rw [hW4]; exact cell_new rfl rfl
      have y5 : W4.cell? ⟨wr.heap.size, 5, none⟩ = some (.slice ah 0 ch) := by rw [hW4]; exact cell_new rfl rfl
      have HF4 := Lib.hid (hFr.below hb4)
      have x0b := cell_keep hb4 x0
      have x2b := cell_keep hb4 x2
      have x4b := cell_keep hb4 x4
      have u0b := cell_keep hb4 u0
      have HI4 := Lib.hid (HI.out.trans (hb4.mono HI.out.size))
      clear hb4 hFr
      go_upto_region 8 with (fail)
      rw [← hW4]
      clear hW4 x0 x2 x4 u0 p0 p1 p2 p3 p4 p5
      go_wp2_with fail
      refine (feedRight_c _ n _ _ s kk ab ah cb ch _ HK.out.1 HK.out.2 hn hn6 HF4.out x0b x2b E1 E2).mono ?_
      rintro e w5 ⟨rfl, hb5⟩
      have x4 := cell_keep hb5 x4b
      have u0 := cell_keep hb5 u0b
      have HI5 := Lib.hid (HI4.out.trans (hb5.mono HI4.out.size))
      clear hb5 HI4 HF4 HI x0b x2b x4b u0b y0 y1 y2 y3 y4 y5 x5
      go_wp2_with fail
      refine (windowValid_c _ E3 _).mono ?_
      rintro e w' ⟨rfl, rfl⟩
      go_wp2
      go_roundw
      case rel => exact ⟨i + 1, by omega, by go_num, HI5⟩
      case measure => simp [intOf]; omega
    · obtain ⟨W2, hW2⟩ : ∃ W2 : World, W2 = wr := ⟨_, rfl⟩
      have HBZ : Hid (Below w.heap.size w W2) := by rw [hW2]; exact Lib.hid (HB.out.trans (HI.out.mono HB.out.size))
      go_wp2
      go_loopw [73, 6] (fun j _ wr => j = .int .i64 0 ∧ W2 = wr) (fun _ _ _ => 0)
      case atStart => exact ⟨rfl, hW2⟩
      case round =>
        clear hW2
        obtain ⟨rfl, rfl⟩ := hrel
        go_wp2
        go_ret
        exact ⟨rfl, HBZ.out⟩
end Go.Proofs.Ytbjndbaljenlgaa
