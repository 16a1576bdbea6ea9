/- The contract of laws.sameWorld at new runs. -/
import Derived.Test.YtbjndbaljenlgaaWc
namespace Go.Proofs.Ytbjndbaljenlgaa
open Go.RowKit
set_option linter.unusedSimpArgs false
theorem sameAsks_c (v1 v2 : Value) (h1 : Em v1) (h2 : Em v2) (w : World) : Calls Try.prog 50 #[v1, v2] w fun e w' => e = .returned (.bool true) ∧ w = w' := by
  obtain ⟨a1, c1, rfl, -⟩ := h1
  obtain ⟨a2, c2, rfl, -⟩ := h2
  go_enter Try.func50, Try.ntmps50
  go_wp2
  go_loopw [5] (fun i wr => i = .int .i64 0 ∧ w = wr) (fun _ _ => 0)
  case atStart => exact ⟨rfl, rfl⟩
  case round =>
    obtain ⟨rfl, rfl⟩ := hrel
    go_wp2
    go_ret
    exact ⟨rfl, rfl⟩
theorem FsR.at {w : World} {a : Option Addr} {n cap i : Nat} {p : Int} (h : FsR w (.slice a n cap) n p) (hi : i < n) : ∃ b off ab cb ah ch, a = some ⟨b, off, none⟩ ∧ Em (.slice ab 0 cb) ∧ Em (.slice ah 0 ch) ∧ w.cell? ⟨b, off + i * 6, none⟩ = some (.int .i64 p) ∧ w.cell? ⟨b, off + i * 6 + 1, none⟩ = some (.int .i64 0) ∧
    w.cell? ⟨b, off + i * 6 + 2, none⟩ = some (.int .i64 0) ∧ w.cell? ⟨b, off + i * 6 + 3, none⟩ = some (.int .i64 0) ∧ w.cell? ⟨b, off + i * 6 + 4, none⟩ = some (.slice ab 0 cb) ∧ w.cell? ⟨b, off + i * 6 + 5, none⟩ = some (.slice ah 0 ch) := by
  obtain ⟨a', cap', e, h1, h2, h3⟩ := h
  simp only [Value.slice.injEq, true_and] at e
  obtain ⟨rfl, rfl⟩ := e
  obtain ⟨b, off, e, hc⟩ := h3 (by omega)
  obtain ⟨vb, vh, ⟨ab, cb, rfl, e1⟩, ⟨ah, ch, rfl, e2⟩, c⟩ := hc i hi
  exact ⟨b, off, ab, cb, ah, ch, e, ⟨_, _, rfl, e1⟩, ⟨_, _, rfl, e2⟩, c⟩
theorem AsR.at {w : World} {a : Option Addr} {n cap i : Nat} (h : AsR w (.slice a n cap) n) (hi : i < n) : ∃ b off au cu, a = some ⟨b, off, none⟩ ∧ Em (.slice au 0 cu) ∧ w.cell? ⟨b, off + i, none⟩ = some (.slice au 0 cu) := by
  obtain ⟨a', cap', e, h1, h2, h3⟩ := h
  simp only [Value.slice.injEq, true_and] at e
  obtain ⟨rfl, rfl⟩ := e
  obtain ⟨b, off, e, hc⟩ := h3 (by omega)
  obtain ⟨u, ⟨au, cu, rfl, e1⟩, c⟩ := hc i hi
  exact ⟨b, off, au, cu, e, ⟨_, _, rfl, e1⟩, c⟩
theorem FsR.shape {w : World} {v : Value} {n : Nat} {p : Int} (h : FsR w v n p) : ∃ a cap, v = .slice a n cap ∧ n ≤ cap ∧ cap ≤ maxLen := by obtain ⟨a, cap, e, h1, h2, -⟩ := h; exact ⟨a, cap, e, h1, h2⟩
theorem AsR.shape {w : World} {v : Value} {n : Nat} (h : AsR w v n) : ∃ a cap, v = .slice a n cap ∧ n ≤ cap ∧ cap ≤ maxLen := by obtain ⟨a, cap, e, h1, h2, -⟩ := h; exact ⟨a, cap, e, h1, h2⟩
set_option maxRecDepth 100000 in
set_option maxHeartbeats 3200000 in
theorem sameWorld_c (s b k : Int) (n : Nat) (vF vL vA vN vF' vL' vA' vN' : Value) (w : World) (hn : n ≤ 6) (hF : FsR w vF n k) (hA : AsR w vA n) (hL : Em vL) (hN : Em vN) (hF' : FsR w vF' n k) (hA' : AsR w vA' n) (hL' : Em vL') (hN' : Em vN') :
    Calls Try.prog 16 #[.agg #[.int .i64 s, .int .i64 b, vF, vL, vA, vN], .agg #[.int .i64 s, .int .i64 b, vF', vL', vA', vN']] w (RetBool true w) := by
  obtain ⟨aF, cF, rfl, f1, f2⟩ := hF.shape
  obtain ⟨aF', cF', rfl, f3, f4⟩ := hF'.shape
  obtain ⟨aA, cA, rfl, g1, g2⟩ := hA.shape
  obtain ⟨aA', cA', rfl, g3, g4⟩ := hA'.shape
  obtain ⟨aL, cL, rfl, -⟩ := hL
  obtain ⟨aL', cL', rfl, -⟩ := hL'
  obtain ⟨aN, cN, rfl, -⟩ := hN
  obtain ⟨aN', cN', rfl, -⟩ := hN'
  unfold maxLen at f2 f4 g2 g4
  obtain ⟨W0, hW0⟩ : ∃ W0, W0 = (w.alloc (.cells #[.int .i64 s, .int .i64 b, .slice aF n cF, .slice aL 0 cL, .slice aA n cA, .slice aN 0 cN] 30)).alloc (.cells #[.int .i64 s, .int .i64 b, .slice aF' n cF', .slice aL' 0 cL', .slice aA' n cA', .slice aN' 0 cN'] 30) := ⟨_, rfl⟩
  have hB0 : Below w.heap.size w W0 := by rw [hW0]; (repeat' (first | exact Below.refl _ _ | assumption | refine Below.drew ?_ | refine below_drewN ?_ _ | refine Below.alloc ?_ (by omega) _ | refine Below.alloc ?_ (by simp; omega) _ | refine Below.alloc ?_ (by simp) _ | refine Below.setCell ?_ (by omega) _ | refine Below.setCell ?_ (by simp; omega) _ | refine Below.setCell ?_ (by simp) _))
  have x0 : W0.cell? ⟨w.heap.size, 0, none⟩ = some (.int .i64 s) := by rw [hW0]; (repeat rw [World.cell?_alloc_lt _ _ _ (by first | (simp; done) | (simp; omega))]); exact cell_new (by simp) rfl
  have x1 : W0.cell? ⟨w.heap.size, 1, none⟩ = some (.int .i64 b) := by rw [hW0]; (repeat rw [World.cell?_alloc_lt _ _ _ (by first | (simp; done) | (simp; omega))]); exact cell_new (by simp) rfl
  have x2 : W0.cell? ⟨w.heap.size, 2, none⟩ = some (.slice aF n cF) := by rw [hW0]; (repeat rw [World.cell?_alloc_lt _ _ _ (by first | (simp; done) | (simp; omega))]); exact cell_new (by simp) rfl
  have x3 : W0.cell? ⟨w.heap.size, 3, none⟩ = some (.slice aL 0 cL) := by rw [hW0]; (repeat rw [World.cell?_alloc_lt _ _ _ (by first | (simp; done) | (simp; omega))]); exact cell_new (by simp) rfl
  have x4 : W0.cell? ⟨w.heap.size, 4, none⟩ = some (.slice aA n cA) := by rw [hW0]; (repeat rw [World.cell?_alloc_lt _ _ _ (by first | (simp; done) | (simp; omega))]); exact cell_new (by simp) rfl
  have x5 : W0.cell? ⟨w.heap.size, 5, none⟩ = some (.slice aN 0 cN) := by rw [hW0]; (repeat rw [World.cell?_alloc_lt _ _ _ (by first | (simp; done) | (simp; omega))]); exact cell_new (by simp) rfl
  have y0 : W0.cell? ⟨w.heap.size + 1, 0, none⟩ = some (.int .i64 s) := by rw [hW0]; (repeat rw [World.cell?_alloc_lt _ _ _ (by first | (simp; done) | (simp; omega))]); exact cell_new (by simp) rfl
  have y1 : W0.cell? ⟨w.heap.size + 1, 1, none⟩ = some (.int .i64 b) := by rw [hW0]; (repeat rw [World.cell?_alloc_lt _ _ _ (by first | (simp; done) | (simp; omega))]); exact cell_new (by simp) rfl
  have y2 : W0.cell? ⟨w.heap.size + 1, 2, none⟩ = some (.slice aF' n cF') := by rw [hW0]; (repeat rw [World.cell?_alloc_lt _ _ _ (by first | (simp; done) | (simp; omega))]); exact cell_new (by simp) rfl
  have y3 : W0.cell? ⟨w.heap.size + 1, 3, none⟩ = some (.slice aL' 0 cL') := by rw [hW0]; (repeat rw [World.cell?_alloc_lt _ _ _ (by first | (simp; done) | (simp; omega))]); exact cell_new (by simp) rfl
  have y4 : W0.cell? ⟨w.heap.size + 1, 4, none⟩ = some (.slice aA' n cA') := by rw [hW0]; (repeat rw [World.cell?_alloc_lt _ _ _ (by first | (simp; done) | (simp; omega))]); exact cell_new (by simp) rfl
  have y5 : W0.cell? ⟨w.heap.size + 1, 5, none⟩ = some (.slice aN' 0 cN') := by rw [hW0]; (repeat rw [World.cell?_alloc_lt _ _ _ (by first | (simp; done) | (simp; omega))]); exact cell_new (by simp) rfl
  have HB := Lib.hid hB0
  have HF := Lib.hid (And.intro hF hF')
  have HA := Lib.hid (And.intro hA hA')
  clear hB0 hF hF' hA hA'
  go_enter Try.func16, Try.ntmps16
  go_upto_region 1 with (fail)
  rw [← hW0]
  clear hW0
  go_wp2
  go_loopw [5] (fun i wr => ∃ i' : Nat, i' ≤ n ∧ i = .int .i64 i' ∧ Hid (Below W0.heap.size W0 wr)) (fun i _ => n - (intOf i).toNat)
  case atStart => exact ⟨0, Nat.zero_le _, rfl, Lib.hid (Below.refl _ _)⟩
  case round =>
    obtain ⟨i, hi, rfl, HI⟩ := hrel
    have x2 := cell_keep HI.out x2
    have x3 := cell_keep HI.out x3
    have x4 := cell_keep HI.out x4
    have x5 := cell_keep HI.out x5
    have y2 := cell_keep HI.out y2
    have y3 := cell_keep HI.out y3
    have y4 := cell_keep HI.out y4
    have y5 := cell_keep HI.out y5
    have HBr := Lib.hid (HB.out.trans (HI.out.mono HB.out.size))
    by_cases hlt : i < n
    · have hlti : (i : Int) < (n : Int) := by omega
      obtain ⟨b1, o1, ab, cb, ah, ch, rfl, E1, E2, p0, p1, p2, p3, p4, p5⟩ := (HF.out.1.below HBr.out).at hlt
      obtain ⟨b2, o2, ub, db, uh, dh, rfl, E3, E4, q0, q1, q2, q3, q4, q5⟩ := (HF.out.2.below HBr.out).at hlt
      have SF := Lib.hid (fun (W : World) (hW : Below wr.heap.size wr W) => (show Calls Try.prog 22 #[.agg #[.int .i64 k, .int .i64 0, .int .i64 0, .int .i64 0, .slice ab 0 cb, .slice ah 0 ch], .agg #[.int .i64 k, .int .i64 0, .int .i64 0, .int .i64 0, .slice ub 0 db, .slice uh 0 dh]] W (fun e w' => e = .returned (.bool true) ∧ Below W.heap.size W w') from sameFeed_c ⟨k, 0, 0, 0, [], []⟩ _ _ _ _ W (E1.rd 1 W) (E2.rd 1 W) (E3.rd 1 W) (E4.rd 1 W)))
      clear E1 E2 E3 E4
      go_wp2
      have za2 := fun (xx : Sub wr) => xx.cell x2
      have zb2 := fun (xx : Sub wr) => xx.cell y2
      have zp0 := fun (xx : Sub wr) => xx.cell p0
      have zp1 := fun (xx : Sub wr) => xx.cell p1
      have zp2 := fun (xx : Sub wr) => xx.cell p2
      have zp3 := fun (xx : Sub wr) => xx.cell p3
      have zp4 := fun (xx : Sub wr) => xx.cell p4
      have zp5 := fun (xx : Sub wr) => xx.cell p5
      have zq0 := fun (xx : Sub wr) => xx.cell q0
      have zq1 := fun (xx : Sub wr) => xx.cell q1
      have zq2 := fun (xx : Sub wr) => xx.cell q2
      have zq3 := fun (xx : Sub wr) => xx.cell q3
      have zq4 := fun (xx : Sub wr) => xx.cell q4
      have zq5 := fun (xx : Sub wr) => xx.cell q5
      refine wp_region_sub (by kernel_rfl) (by kernel_rfl) ?_
      repeat (go_big_quiet_step (with_reducible (exact Calls.sub (v := .bool true) SF.out)))
      refine wpQuiet_nil ?_
      rintro _ ⟨xs, rfl⟩
      have HI2 := Lib.hid (HI.out.trans (xs.b.mono HI.out.size))
      clear za2 zb2 zp0 zp1 zp2 zp3 zp4 zp5 zq0 zq1 zq2 zq3 zq4 zq5 SF HI
      go_wp2
      go_roundw
      case rel => exact ⟨i + 1, by omega, by go_num, HI2⟩
      case measure => simp [intOf]; omega
    · obtain ⟨W1, hW1⟩ : ∃ W1 : World, W1 = wr := ⟨_, rfl⟩
      go_wp2
      go_loopw [6] (fun j wr => ∃ i' : Nat, i' ≤ n ∧ j = .int .i64 i' ∧ Hid (Below W1.heap.size W1 wr)) (fun j _ => n - (intOf j).toNat)
      case atStart => exact ⟨0, Nat.zero_le _, rfl, by rw [hW1]; exact Lib.hid (Below.refl _ _)⟩
      case round =>
        subst hW1
        obtain ⟨j, hj, rfl, HJ⟩ := hrel
        have x3 := cell_keep HJ.out x3
        have x4 := cell_keep HJ.out x4
        have x5 := cell_keep HJ.out x5
        have y3 := cell_keep HJ.out y3
        have y4 := cell_keep HJ.out y4
        have y5 := cell_keep HJ.out y5
        have HBj := Lib.hid (HBr.out.trans (HJ.out.mono HBr.out.size))
        by_cases hltj : j < n
        · have hltji : (j : Int) < (n : Int) := by omega
          obtain ⟨b1, o1, au, cu, rfl, E1, p0⟩ := (HA.out.1.below HBj.out).at hltj
          obtain ⟨b2, o2, bu, du, rfl, E2, q0⟩ := (HA.out.2.below HBj.out).at hltj
          have SA := Lib.hid (fun (W : World) => sameAsks_c (.slice au 0 cu) (.slice bu 0 du) E1 E2 W)
          clear E1 E2
          go_wp2
          have za4 := fun (xx : Sub wr) => xx.cell x4
          have zb4 := fun (xx : Sub wr) => xx.cell y4
          have zp0 := fun (xx : Sub wr) => xx.cell p0
          have zq0 := fun (xx : Sub wr) => xx.cell q0
          refine wp_region_sub (by kernel_rfl) (by kernel_rfl) ?_
          repeat (go_big_quiet_step (with_reducible (exact Calls.sub_same (v := .bool true) (fun W _ => SA.out W))))
          refine wpQuiet_nil ?_
          rintro _ ⟨xs, rfl⟩
          have HJ2 := Lib.hid (HJ.out.trans (xs.b.mono HJ.out.size))
          clear za4 zb4 zp0 zq0 SA HJ
          go_wp2
          go_roundw
          case rel => exact ⟨j + 1, by omega, by go_num, HJ2⟩
          case measure => simp [intOf]; omega
        · obtain ⟨W2, hW2⟩ : ∃ W2 : World, W2 = wr := ⟨_, rfl⟩
          have X3 : W2.cell? ⟨w.heap.size, 3, none⟩ = some (.slice aL 0 cL) := by rw [hW2]; exact x3
          have X5 : W2.cell? ⟨w.heap.size, 5, none⟩ = some (.slice aN 0 cN) := by rw [hW2]; exact x5
          have Y3 : W2.cell? ⟨w.heap.size + 1, 3, none⟩ = some (.slice aL' 0 cL') := by rw [hW2]; exact y3
          have Y5 : W2.cell? ⟨w.heap.size + 1, 5, none⟩ = some (.slice aN' 0 cN') := by rw [hW2]; exact y5
          have HB2 : Hid (Below w.heap.size w W2) := by rw [hW2]; exact HBj
          go_wp2
          go_loopw [7] (fun j wr => j = .int .i64 0 ∧ W2 = wr) (fun _ _ => 0)
          case atStart => exact ⟨rfl, hW2⟩
          case round =>
            clear x3 x5 y3 y5 HBj hW2
            obtain ⟨rfl, rfl⟩ := hrel
            go_wp2
            go_loopw [8] (fun j wr => j = .int .i64 0 ∧ W2 = wr) (fun _ _ => 0)
            case atStart => exact ⟨rfl, rfl⟩
            case round =>
              obtain ⟨rfl, rfl⟩ := hrel
              go_wp2
              go_ret
              exact ⟨rfl, HB2.out⟩
end Go.Proofs.Ytbjndbaljenlgaa
