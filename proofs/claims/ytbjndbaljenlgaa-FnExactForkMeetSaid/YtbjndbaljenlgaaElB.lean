/- The walk of the law FnExactForkMeet. -/
import Derived.Test.YtbjndbaljenlgaaElA
import Derived.Deep.DeepCutAuto
import Derived.Test.YtbjndbaljenlgaaEg
import Derived.Deep.RegionHeld3
namespace Go.Proofs.Ytbjndbaljenlgaa
open Go.RowKit
theorem Below.step {w a b : World} (h : Below a.heap.size a b) (k : Below w.heap.size w a) : Below w.heap.size w b := k.trans (h.mono k.size)
theorem cell_new_drew {W : World} {cs : Array Value} {t : TypeId} {b o : Nat} {u : Value} (hb : b = W.heap.size) (h : cs[o]? = some u) : ((W.alloc (.cells cs t)).drew).cell? ⟨b, o, none⟩ = some u := cell_new hb h
theorem frozen_new_drew {W : World} {cs : Array Value} {t : TypeId} {b o : Nat} (hb : b = W.heap.size) : ((W.alloc (.cells cs t)).drew).frozen? ⟨b, o, none⟩ = false := frozen_new hb
theorem cell_keep_drew {W : World} {O : Obj} {a : Addr} {u : Value} (h : W.drew.cell? a = some u) : ((W.alloc O).drew).cell? a = some u := cell_keep ((Below.refl W.heap.size W).alloc (Nat.le_refl _) _) (show W.cell? _ = _ from h)
theorem below_alloc_drew {W w : World} {O : Obj} (h : Below w.heap.size w W.drew) : Below w.heap.size w ((W.alloc O).drew) := (Below.alloc (show Below w.heap.size w W from ⟨h.os, h.tape, h.output, h.size, h.block⟩) h.size _).drew
theorem set7 {w : World} {b o B : Nat} {v v0 v1 v2 v3 v4 v5 v6 : Value} (h : w.cell? ⟨b, o, none⟩ = some v) (hne : b ≠ B) :
    (((((((w.setCell ⟨B, 0, none⟩ v0).setCell ⟨B, 1, none⟩ v1).setCell ⟨B, 2, none⟩ v2).setCell ⟨B, 3, none⟩ v3).setCell ⟨B, 4, none⟩ v4).setCell ⟨B, 5, none⟩ v5).setCell ⟨B, 6, none⟩ v6).cell? ⟨b, o, none⟩ = some v := by
  have ne : ∀ j, (⟨b, o, none⟩ : Addr) ≠ ⟨B, j, none⟩ := fun j e => hne (by simpa using congrArg Addr.block e)
  iterate 7 rw [World.cell?_setCell_other _ _ _ _ (by first | exact ne _ | exact (ne _).symm)]
  exact h
theorem below7 {x w : World} {D B : Nat} {v0 v1 v2 v3 v4 v5 v6 : Value} (h : Below D x w) (hB : D ≤ B) :
    Below D x (((((((w.setCell ⟨B, 0, none⟩ v0).setCell ⟨B, 1, none⟩ v1).setCell ⟨B, 2, none⟩ v2).setCell ⟨B, 3, none⟩ v3).setCell ⟨B, 4, none⟩ v4).setCell ⟨B, 5, none⟩ v5).setCell ⟨B, 6, none⟩ v6) :=
  Below.setCell (Below.setCell (Below.setCell (Below.setCell (Below.setCell (Below.setCell (Below.setCell h hB _) hB _) hB _) hB _) hB _) hB _) hB _
theorem forkV_ints (b : Bool) (p la da sa lb db sb : Int) : ∃ q0 q1 q2 q3 q4 q5 q6 : Int, forkV b p la da sa lb db sb = .agg #[.int .i64 q0, .int .i64 q1, .int .i64 q2, .int .i64 q3, .int .i64 q4, .int .i64 q5, .int .i64 q6] := by
  cases b
  · exact ⟨0, 0, 0, 0, 0, 0, 0, rfl⟩
  · exact ⟨_, _, _, _, _, _, _, rfl⟩
set_option maxRecDepth 10000 in
set_option maxHeartbeats 4000000 in
theorem lawFnExactForkMeet_c (w : World) (f : FeedV) (vb vh : Value) (hb : Rd 1 w vb f.bs.length (encS f.bs)) (hh : Rd 1 w vh f.hv.length (encB f.hv)) (hf : Fits f.bs) (g : FeedV) (ub uh : Value) (kb : Rd 1 w ub g.bs.length (encS g.bs)) (kh : Rd 1 w uh g.hv.length (encB g.hv)) (kf : Fits g.bs) :
    Calls Try.prog 9 #[.agg #[.int .i64 f.pub, .int .i64 f.len, .int .i64 f.dig, .int .i64 f.sign, vb, vh], .agg #[.int .i64 g.pub, .int .i64 g.len, .int .i64 g.dig, .int .i64 g.sign, ub, uh]] w fun e w' => e = .returned (.bool true) ∧ Below w.heap.size w w' := by
  have SF := Lib.hid (fun W (hW : Below w.heap.size w W) => szFeed_c f vb vh 1048576 W (hb.below hW) (hh.below hW) hf (by omega) (by omega))
  have SG := Lib.hid (fun l W (hW : Below w.heap.size w W) (l0 : 0 ≤ l) (l1 : l ≤ 1048576) => szFeed_c g ub uh l W (kb.below hW) (kh.below hW) kf l0 l1)
  have TF := Lib.hid (fun W (hW : Below w.heap.size w W) (hn : f.bs.length ≤ 1048576 ∧ f.hv.length ≤ 1048576) => toFeed_c f vb vh W (hb.below hW) (hh.below hW) hn)
  have TG := Lib.hid (fun W (hW : Below w.heap.size w W) (hn : g.bs.length ≤ 1048576 ∧ g.hv.length ≤ 1048576) => toFeed_c g ub uh W (kb.below hW) (kh.below hW) hn)
  obtain ⟨W0, hW0⟩ : ∃ W0, W0 = (w.alloc (.cells #[.int .i64 f.pub, .int .i64 f.len, .int .i64 f.dig, .int .i64 f.sign, vb, vh] 57)).alloc (.cells #[.int .i64 g.pub, .int .i64 g.len, .int .i64 g.dig, .int .i64 g.sign, ub, uh] 57) := ⟨_, rfl⟩
  have hB0 : Below w.heap.size w W0 := by rw [hW0]; (repeat' (first | exact Below.refl _ _ | assumption | refine Below.drew ?_ | refine below_drewN ?_ _ | refine Below.alloc ?_ (by omega) _ | refine Below.alloc ?_ (by simp; omega) _ | refine Below.alloc ?_ (by simp) _ | refine Below.setCell ?_ (by omega) _ | refine Below.setCell ?_ (by simp; omega) _ | refine Below.setCell ?_ (by simp) _))
  have hz0 : w.heap.size + 2 ≤ W0.heap.size := by rw [hW0]; simp
  have HZ := Lib.hid hz0
  clear hz0
  have x0 : W0.cell? ⟨w.heap.size, 0, none⟩ = some (.int .i64 f.pub) := by rw [hW0]; (repeat rw [World.cell?_alloc_lt _ _ _ (by first | (simp; done) | (simp; omega))]); exact cell_new (by simp) rfl
  have x1 : W0.cell? ⟨w.heap.size, 1, none⟩ = some (.int .i64 f.len) := by rw [hW0]; (repeat rw [World.cell?_alloc_lt _ _ _ (by first | (simp; done) | (simp; omega))]); exact cell_new (by simp) rfl
  have x2 : W0.cell? ⟨w.heap.size, 2, none⟩ = some (.int .i64 f.dig) := by rw [hW0]; (repeat rw [World.cell?_alloc_lt _ _ _ (by first | (simp; done) | (simp; omega))]); exact cell_new (by simp) rfl
  have x3 : W0.cell? ⟨w.heap.size, 3, none⟩ = some (.int .i64 f.sign) := by rw [hW0]; (repeat rw [World.cell?_alloc_lt _ _ _ (by first | (simp; done) | (simp; omega))]); exact cell_new (by simp) rfl
  have x4 : W0.cell? ⟨w.heap.size, 4, none⟩ = some (vb) := by rw [hW0]; (repeat rw [World.cell?_alloc_lt _ _ _ (by first | (simp; done) | (simp; omega))]); exact cell_new (by simp) rfl
  have x5 : W0.cell? ⟨w.heap.size, 5, none⟩ = some (vh) := by rw [hW0]; (repeat rw [World.cell?_alloc_lt _ _ _ (by first | (simp; done) | (simp; omega))]); exact cell_new (by simp) rfl
  have z0 : W0.cell? ⟨w.heap.size + 1, 0, none⟩ = some (.int .i64 g.pub) := by rw [hW0]; (repeat rw [World.cell?_alloc_lt _ _ _ (by first | (simp; done) | (simp; omega))]); exact cell_new (by simp) rfl
  have z1 : W0.cell? ⟨w.heap.size + 1, 1, none⟩ = some (.int .i64 g.len) := by rw [hW0]; (repeat rw [World.cell?_alloc_lt _ _ _ (by first | (simp; done) | (simp; omega))]); exact cell_new (by simp) rfl
  have z2 : W0.cell? ⟨w.heap.size + 1, 2, none⟩ = some (.int .i64 g.dig) := by rw [hW0]; (repeat rw [World.cell?_alloc_lt _ _ _ (by first | (simp; done) | (simp; omega))]); exact cell_new (by simp) rfl
  have z3 : W0.cell? ⟨w.heap.size + 1, 3, none⟩ = some (.int .i64 g.sign) := by rw [hW0]; (repeat rw [World.cell?_alloc_lt _ _ _ (by first | (simp; done) | (simp; omega))]); exact cell_new (by simp) rfl
  have z4 : W0.cell? ⟨w.heap.size + 1, 4, none⟩ = some (ub) := by rw [hW0]; (repeat rw [World.cell?_alloc_lt _ _ _ (by first | (simp; done) | (simp; omega))]); exact cell_new (by simp) rfl
  have z5 : W0.cell? ⟨w.heap.size + 1, 5, none⟩ = some (uh) := by rw [hW0]; (repeat rw [World.cell?_alloc_lt _ _ _ (by first | (simp; done) | (simp; omega))]); exact cell_new (by simp) rfl
  have HB := Lib.hid hB0
  clear hB0 hf kf
  obtain ⟨-, a1, k1, rfl, hb1, hb2, -⟩ := hb
  obtain ⟨-, a2, k2, rfl, hh1, hh2, -⟩ := hh
  obtain ⟨-, a3, k3, rfl, kb1, kb2, -⟩ := kb
  obtain ⟨-, a4, k4, rfl, kh1, kh2, -⟩ := kh
  go_enter Try.func9, Try.ntmps9
  go_wp2_with fail
  rw [← hW0]
  clear hW0
  refine (SF.out _ HB.out).mono ?_
  rintro e w1 ⟨r, rfl, r1, r2, r3, hb1'⟩
  have x0 := cell_keep hb1' x0
  have x1 := cell_keep hb1' x1
  have x2 := cell_keep hb1' x2
  have x3 := cell_keep hb1' x3
  have x4 := cell_keep hb1' x4
  have x5 := cell_keep hb1' x5
  have z0 := cell_keep hb1' z0
  have z1 := cell_keep hb1' z1
  have z2 := cell_keep hb1' z2
  have z3 := cell_keep hb1' z3
  have z4 := cell_keep hb1' z4
  have z5 := cell_keep hb1' z5
  have HZ := Lib.hid (Nat.le_trans HZ.out hb1'.size)
  have HB := Lib.hid (HB.out.trans (hb1'.mono HB.out.size))
  have H3 := Lib.hid r3
  clear hb1' r3
  by_cases hr : r < 0
  · go_wp2
    go_ret
    exact ⟨rfl, HB.out⟩
  · have HN := Lib.hid (H3.out (by omega))
    clear H3
    go_wp2_with fail
    refine (SG.out _ _ HB.out (by omega) (by omega)).mono ?_
    rintro e w2 ⟨s, rfl, s1, s2, s3, hb2'⟩
    have x0 := cell_keep hb2' x0
    have x1 := cell_keep hb2' x1
    have x2 := cell_keep hb2' x2
    have x3 := cell_keep hb2' x3
    have x4 := cell_keep hb2' x4
    have x5 := cell_keep hb2' x5
    have z0 := cell_keep hb2' z0
    have z1 := cell_keep hb2' z1
    have z2 := cell_keep hb2' z2
    have z3 := cell_keep hb2' z3
    have z4 := cell_keep hb2' z4
    have z5 := cell_keep hb2' z5
    have HZ := Lib.hid (Nat.le_trans HZ.out hb2'.size)
    have HB := Lib.hid (HB.out.trans (hb2'.mono HB.out.size))
    have H3 := Lib.hid s3
    clear hb2' s3
    by_cases hs : s < 0
    · go_wp2
      go_ret
      exact ⟨rfl, HB.out⟩
    · have HM := Lib.hid (H3.out (by omega))
      clear H3
      go_upto_region 8 with (fail)
      obtain ⟨q0, q1, q2, q3, q4, q5, q6, hq⟩ := forkV_ints (fm f g) f.pub f.len f.dig f.sign g.len g.dig g.sign
      have HQ := Lib.hid hq
      clear hq
      go_cut [6, 7] (fun s6 s7 wx => ∃ bF : Nat, s6 = .pointer (some ⟨bF, 0, none⟩) ∧ s7 = .bool (fm f g) ∧ wx.cell? ⟨bF, 0, none⟩ = some (.int .i64 q0) ∧ wx.cell? ⟨bF, 1, none⟩ = some (.int .i64 q1) ∧ wx.cell? ⟨bF, 2, none⟩ = some (.int .i64 q2) ∧ wx.cell? ⟨bF, 3, none⟩ = some (.int .i64 q3) ∧ wx.cell? ⟨bF, 4, none⟩ = some (.int .i64 q4) ∧ wx.cell? ⟨bF, 5, none⟩ = some (.int .i64 q5) ∧ wx.cell? ⟨bF, 6, none⟩ = some (.int .i64 q6) ∧ wx.cell? ⟨w.heap.size, 0, none⟩ = some (.int .i64 f.pub) ∧ wx.cell? ⟨w.heap.size, 1, none⟩ = some (.int .i64 f.len) ∧ wx.cell? ⟨w.heap.size, 2, none⟩ = some (.int .i64 f.dig) ∧ wx.cell? ⟨w.heap.size, 3, none⟩ = some (.int .i64 f.sign) ∧ wx.cell? ⟨w.heap.size, 4, none⟩ = some ((.slice a1 f.bs.length k1)) ∧ wx.cell? ⟨w.heap.size, 5, none⟩ = some ((.slice a2 f.hv.length k2)) ∧ wx.cell? ⟨w.heap.size + 1, 0, none⟩ = some (.int .i64 g.pub) ∧ wx.cell? ⟨w.heap.size + 1, 1, none⟩ = some (.int .i64 g.len) ∧ wx.cell? ⟨w.heap.size + 1, 2, none⟩ = some (.int .i64 g.dig) ∧ wx.cell? ⟨w.heap.size + 1, 3, none⟩ = some (.int .i64 g.sign) ∧ wx.cell? ⟨w.heap.size + 1, 4, none⟩ = some ((.slice a3 g.bs.length k3)) ∧ wx.cell? ⟨w.heap.size + 1, 5, none⟩ = some ((.slice a4 g.hv.length k4)) ∧ Below w.heap.size w wx)
      have s2 : w.heap.size + 2 ≤ w2.heap.size := HZ.out
      case first =>
        have d0 : w2.drew.cell? ⟨w.heap.size, 0, none⟩ = some (.int .i64 f.pub) := x0
        have d1 : w2.drew.cell? ⟨w.heap.size, 1, none⟩ = some (.int .i64 f.len) := x1
        have d2 : w2.drew.cell? ⟨w.heap.size, 2, none⟩ = some (.int .i64 f.dig) := x2
        have d3 : w2.drew.cell? ⟨w.heap.size, 3, none⟩ = some (.int .i64 f.sign) := x3
        have d4 : w2.drew.cell? ⟨w.heap.size, 4, none⟩ = some ((.slice a1 f.bs.length k1)) := x4
        have d5 : w2.drew.cell? ⟨w.heap.size, 5, none⟩ = some ((.slice a2 f.hv.length k2)) := x5
        have c0 : w2.drew.cell? ⟨w.heap.size + 1, 0, none⟩ = some (.int .i64 g.pub) := z0
        have c1 : w2.drew.cell? ⟨w.heap.size + 1, 1, none⟩ = some (.int .i64 g.len) := z1
        have c2 : w2.drew.cell? ⟨w.heap.size + 1, 2, none⟩ = some (.int .i64 g.dig) := z2
        have c3 : w2.drew.cell? ⟨w.heap.size + 1, 3, none⟩ = some (.int .i64 g.sign) := z3
        have c4 : w2.drew.cell? ⟨w.heap.size + 1, 4, none⟩ = some ((.slice a3 g.bs.length k3)) := z4
        have c5 : w2.drew.cell? ⟨w.heap.size + 1, 5, none⟩ = some ((.slice a4 g.hv.length k4)) := z5
        have HBd := HB.out.drew
        clear x0 x1 x2 x3 x4 x5 z0 z1 z2 z3 z4 z5
        go_region_held3 (fun w' => w'.cell? ⟨w.heap.size, 0, none⟩ = some (.int .i64 f.pub) ∧ w'.cell? ⟨w.heap.size, 1, none⟩ = some (.int .i64 f.len) ∧ w'.cell? ⟨w.heap.size, 2, none⟩ = some (.int .i64 f.dig) ∧ w'.cell? ⟨w.heap.size, 3, none⟩ = some (.int .i64 f.sign) ∧ w'.cell? ⟨w.heap.size, 4, none⟩ = some ((.slice a1 f.bs.length k1)) ∧ w'.cell? ⟨w.heap.size, 5, none⟩ = some ((.slice a2 f.hv.length k2)) ∧ w'.cell? ⟨w.heap.size + 1, 0, none⟩ = some (.int .i64 g.pub) ∧ w'.cell? ⟨w.heap.size + 1, 1, none⟩ = some (.int .i64 g.len) ∧ w'.cell? ⟨w.heap.size + 1, 2, none⟩ = some (.int .i64 g.dig) ∧ w'.cell? ⟨w.heap.size + 1, 3, none⟩ = some (.int .i64 g.sign) ∧ w'.cell? ⟨w.heap.size + 1, 4, none⟩ = some ((.slice a3 g.bs.length k3)) ∧ w'.cell? ⟨w.heap.size + 1, 5, none⟩ = some ((.slice a4 g.hv.length k4)) ∧ Below w.heap.size w w') (first
          | with_reducible exact ⟨d0, d1, d2, d3, d4, d5, c0, c1, c2, c3, c4, c5, HBd⟩
          | with_reducible exact ⟨e0, e1, e2, e3, e4, e5, g0, g1, g2, g3, g4, g5, hBe⟩
          | with_reducible exact ⟨cell_keep ((Below.refl _ _).alloc (Nat.le_refl _) _) e0, cell_keep ((Below.refl _ _).alloc (Nat.le_refl _) _) e1, cell_keep ((Below.refl _ _).alloc (Nat.le_refl _) _) e2, cell_keep ((Below.refl _ _).alloc (Nat.le_refl _) _) e3, cell_keep ((Below.refl _ _).alloc (Nat.le_refl _) _) e4, cell_keep ((Below.refl _ _).alloc (Nat.le_refl _) _) e5, cell_keep ((Below.refl _ _).alloc (Nat.le_refl _) _) g0, cell_keep ((Below.refl _ _).alloc (Nat.le_refl _) _) g1, cell_keep ((Below.refl _ _).alloc (Nat.le_refl _) _) g2, cell_keep ((Below.refl _ _).alloc (Nat.le_refl _) _) g3, cell_keep ((Below.refl _ _).alloc (Nat.le_refl _) _) g4, cell_keep ((Below.refl _ _).alloc (Nat.le_refl _) _) g5, Below.alloc hBe hBe.size _⟩
          | with_reducible exact ⟨cell_keep_drew d0, cell_keep_drew d1, cell_keep_drew d2, cell_keep_drew d3, cell_keep_drew d4, cell_keep_drew d5, cell_keep_drew c0, cell_keep_drew c1, cell_keep_drew c2, cell_keep_drew c3, cell_keep_drew c4, cell_keep_drew c5, below_alloc_drew HBd⟩
          | with_reducible exact ⟨set7 e0 (by omega), set7 e1 (by omega), set7 e2 (by omega), set7 e3 (by omega), set7 e4 (by omega), set7 e5 (by omega), set7 g0 (by omega), set7 g1 (by omega), set7 g2 (by omega), set7 g3 (by omega), set7 g4 (by omega), set7 g5 (by omega), below7 hBe (by omega)⟩
          | fail) ((first
          | (rename_i hH _ _; obtain ⟨m0, m1, m2, m3, m4, m5, n0, n1, n2, n3, n4, n5, hBm⟩ := hH; (with_reducible refine (TF.out _ hBm HN.out).mono ?_); rintro e w6 ⟨tb, th, rfl, HT1, HT2, hb6⟩; have e0 := cell_keep hb6 m0; have g0 := cell_keep hb6 n0; have e1 := cell_keep hb6 m1; have g1 := cell_keep hb6 n1; have e2 := cell_keep hb6 m2; have g2 := cell_keep hb6 n2; have e3 := cell_keep hb6 m3; have g3 := cell_keep hb6 n3; have e4 := cell_keep hb6 m4; have g4 := cell_keep hb6 n4; have e5 := cell_keep hb6 m5; have g5 := cell_keep hb6 n5; have hBe := Below.step hb6 hBm; have s6 : w.heap.size + 2 ≤ w6.heap.size := (by have := hb6.size; (try simp at this); omega); (try (have hlt := World.block_lt_of_cell? _ _ u0; dsimp only at hlt; have fz : ∀ o, _ := fun o => Eq.trans (below_frozen hb6 (a := ⟨_, o, none⟩) (by exact hlt)) (fz o); clear hlt)); (try have u0 := cell_keep hb6 u0); (try have u1 := cell_keep hb6 u1); (try have u2 := cell_keep hb6 u2); (try have u3 := cell_keep hb6 u3); (try have u4 := cell_keep hb6 u4); (try have u5 := cell_keep hb6 u5); (try have u6 := cell_keep hb6 u6); (try with_reducible (have u0 := cell_keep hb6 (cell_new_drew (W := w2) (o := 0) rfl rfl); have u1 := cell_keep hb6 (cell_new_drew (W := w2) (o := 1) rfl rfl); have u2 := cell_keep hb6 (cell_new_drew (W := w2) (o := 2) rfl rfl); have u3 := cell_keep hb6 (cell_new_drew (W := w2) (o := 3) rfl rfl); have u4 := cell_keep hb6 (cell_new_drew (W := w2) (o := 4) rfl rfl); have u5 := cell_keep hb6 (cell_new_drew (W := w2) (o := 5) rfl rfl); have u6 := cell_keep hb6 (cell_new_drew (W := w2) (o := 6) rfl rfl); have fz : ∀ o, _ := fun o => (below_frozen hb6 (a := ⟨w2.heap.size, o, none⟩) (by simp)).trans (frozen_new_drew (W := w2) rfl))))
          | (rename_i hH _ _; obtain ⟨m0, m1, m2, m3, m4, m5, n0, n1, n2, n3, n4, n5, hBm⟩ := hH; (with_reducible refine (TG.out _ hBm HM.out).mono ?_); rintro e w7 ⟨sb, sh, rfl, HS1, HS2, hb7⟩; have B67 : Below w6.heap.size w6 w7 := (by first | exact hb7 | exact ((Below.refl w6.heap.size w6).alloc (Nat.le_refl _) _).trans (hb7.mono (by simp))); have e0 := cell_keep hb7 m0; have g0 := cell_keep hb7 n0; have e1 := cell_keep hb7 m1; have g1 := cell_keep hb7 n1; have e2 := cell_keep hb7 m2; have g2 := cell_keep hb7 n2; have e3 := cell_keep hb7 m3; have g3 := cell_keep hb7 n3; have e4 := cell_keep hb7 m4; have g4 := cell_keep hb7 n4; have e5 := cell_keep hb7 m5; have g5 := cell_keep hb7 n5; have hBe := Below.step hb7 hBm; have s7 : w.heap.size + 2 ≤ w7.heap.size := (by have := hb7.size; (try simp at this); omega); (try (have hlt := World.block_lt_of_cell? _ _ u0; dsimp only at hlt; have fz : ∀ o, _ := fun o => Eq.trans (below_frozen hb7 (a := ⟨_, o, none⟩) (by exact hlt)) (fz o); clear hlt)); (try have u0 := cell_keep hb7 u0); (try have u1 := cell_keep hb7 u1); (try have u2 := cell_keep hb7 u2); (try have u3 := cell_keep hb7 u3); (try have u4 := cell_keep hb7 u4); (try have u5 := cell_keep hb7 u5); (try have u6 := cell_keep hb7 u6); (try with_reducible (have u0 := cell_keep hb7 (cell_new (W := w6) (b := w6.heap.size) (o := 0) rfl rfl); have u1 := cell_keep hb7 (cell_new (W := w6) (b := w6.heap.size) (o := 1) rfl rfl); have u2 := cell_keep hb7 (cell_new (W := w6) (b := w6.heap.size) (o := 2) rfl rfl); have u3 := cell_keep hb7 (cell_new (W := w6) (b := w6.heap.size) (o := 3) rfl rfl); have u4 := cell_keep hb7 (cell_new (W := w6) (b := w6.heap.size) (o := 4) rfl rfl); have u5 := cell_keep hb7 (cell_new (W := w6) (b := w6.heap.size) (o := 5) rfl rfl); have u6 := cell_keep hb7 (cell_new (W := w6) (b := w6.heap.size) (o := 6) rfl rfl); have fz : ∀ o, _ := fun o => (below_frozen hb7 (a := ⟨w6.heap.size, o, none⟩) (by simp)).trans (frozen_new (W := w6) rfl))))
          | (rename_i hH _ _; obtain ⟨m0, m1, m2, m3, m4, m5, n0, n1, n2, n3, n4, n5, hBm⟩ := hH; (with_reducible refine (specFm_c f g _ _ _ _ _ (HT1.below B67) (HT2.below B67) HS1 HS2).mono ?_); rintro e w8 ⟨he, hb8⟩; rw [HQ.out] at he; subst he; have e0 := cell_keep hb8 m0; have g0 := cell_keep hb8 n0; have e1 := cell_keep hb8 m1; have g1 := cell_keep hb8 n1; have e2 := cell_keep hb8 m2; have g2 := cell_keep hb8 n2; have e3 := cell_keep hb8 m3; have g3 := cell_keep hb8 n3; have e4 := cell_keep hb8 m4; have g4 := cell_keep hb8 n4; have e5 := cell_keep hb8 m5; have g5 := cell_keep hb8 n5; have hBe := Below.step hb8 hBm; (try (have hlt := World.block_lt_of_cell? _ _ u0; dsimp only at hlt; have fz : ∀ o, _ := fun o => Eq.trans (below_frozen hb8 (a := ⟨_, o, none⟩) (by exact hlt)) (fz o); clear hlt)); (try have u0 := cell_keep hb8 u0); (try have u1 := cell_keep hb8 u1); (try have u2 := cell_keep hb8 u2); (try have u3 := cell_keep hb8 u3); (try have u4 := cell_keep hb8 u4); (try have u5 := cell_keep hb8 u5); (try have u6 := cell_keep hb8 u6); (try with_reducible (have u0 := cell_keep hb8 (cell_new (W := w7) (b := w7.heap.size) (o := 0) rfl rfl); have u1 := cell_keep hb8 (cell_new (W := w7) (b := w7.heap.size) (o := 1) rfl rfl); have u2 := cell_keep hb8 (cell_new (W := w7) (b := w7.heap.size) (o := 2) rfl rfl); have u3 := cell_keep hb8 (cell_new (W := w7) (b := w7.heap.size) (o := 3) rfl rfl); have u4 := cell_keep hb8 (cell_new (W := w7) (b := w7.heap.size) (o := 4) rfl rfl); have u5 := cell_keep hb8 (cell_new (W := w7) (b := w7.heap.size) (o := 5) rfl rfl); have u6 := cell_keep hb8 (cell_new (W := w7) (b := w7.heap.size) (o := 6) rfl rfl); have fz : ∀ o, _ := fun o => (below_frozen hb8 (a := ⟨w7.heap.size, o, none⟩) (by simp)).trans (frozen_new (W := w7) rfl))))
          | (rename_i hH _ _; obtain ⟨m0, m1, m2, m3, m4, m5, n0, n1, n2, n3, n4, n5, hBm⟩ := hH; (with_reducible refine (specFm_c f g _ _ _ _ _ (HT1.below (Below.alloc B67 B67.size _)) (HT2.below (Below.alloc B67 B67.size _)) (HS1.below ((Below.refl w7.heap.size w7).alloc (Nat.le_refl _) _)) (HS2.below ((Below.refl w7.heap.size w7).alloc (Nat.le_refl _) _))).mono ?_); rintro e w8 ⟨he, hb8⟩; rw [HQ.out] at he; subst he; have e0 := cell_keep hb8 m0; have g0 := cell_keep hb8 n0; have e1 := cell_keep hb8 m1; have g1 := cell_keep hb8 n1; have e2 := cell_keep hb8 m2; have g2 := cell_keep hb8 n2; have e3 := cell_keep hb8 m3; have g3 := cell_keep hb8 n3; have e4 := cell_keep hb8 m4; have g4 := cell_keep hb8 n4; have e5 := cell_keep hb8 m5; have g5 := cell_keep hb8 n5; have hBe := Below.step hb8 hBm; (try (have hlt := World.block_lt_of_cell? _ _ u0; dsimp only at hlt; have fz : ∀ o, _ := fun o => Eq.trans (below_frozen hb8 (a := ⟨_, o, none⟩) (by exact hlt)) (fz o); clear hlt)); (try have u0 := cell_keep hb8 u0); (try have u1 := cell_keep hb8 u1); (try have u2 := cell_keep hb8 u2); (try have u3 := cell_keep hb8 u3); (try have u4 := cell_keep hb8 u4); (try have u5 := cell_keep hb8 u5); (try have u6 := cell_keep hb8 u6); (try with_reducible (have u0 := cell_keep hb8 (cell_new (W := w7) (b := w7.heap.size) (o := 0) rfl rfl); have u1 := cell_keep hb8 (cell_new (W := w7) (b := w7.heap.size) (o := 1) rfl rfl); have u2 := cell_keep hb8 (cell_new (W := w7) (b := w7.heap.size) (o := 2) rfl rfl); have u3 := cell_keep hb8 (cell_new (W := w7) (b := w7.heap.size) (o := 3) rfl rfl); have u4 := cell_keep hb8 (cell_new (W := w7) (b := w7.heap.size) (o := 4) rfl rfl); have u5 := cell_keep hb8 (cell_new (W := w7) (b := w7.heap.size) (o := 5) rfl rfl); have u6 := cell_keep hb8 (cell_new (W := w7) (b := w7.heap.size) (o := 6) rfl rfl); have fz : ∀ o, _ := fun o => (below_frozen hb8 (a := ⟨w7.heap.size, o, none⟩) (by simp)).trans (frozen_new (W := w7) rfl))))
          | fail "none"))
        all_goals go_wp2_with fail
        all_goals go_meet
        all_goals first
          | (with_reducible refine ⟨_, rfl, rfl, ?_, ?_, ?_, ?_, ?_, ?_, ?_, cell_keep ((Below.refl _ _).alloc (Nat.le_refl _) _) e0, cell_keep ((Below.refl _ _).alloc (Nat.le_refl _) _) e1, cell_keep ((Below.refl _ _).alloc (Nat.le_refl _) _) e2, cell_keep ((Below.refl _ _).alloc (Nat.le_refl _) _) e3, cell_keep ((Below.refl _ _).alloc (Nat.le_refl _) _) e4, cell_keep ((Below.refl _ _).alloc (Nat.le_refl _) _) e5, cell_keep ((Below.refl _ _).alloc (Nat.le_refl _) _) g0, cell_keep ((Below.refl _ _).alloc (Nat.le_refl _) _) g1, cell_keep ((Below.refl _ _).alloc (Nat.le_refl _) _) g2, cell_keep ((Below.refl _ _).alloc (Nat.le_refl _) _) g3, cell_keep ((Below.refl _ _).alloc (Nat.le_refl _) _) g4, cell_keep ((Below.refl _ _).alloc (Nat.le_refl _) _) g5, Below.alloc hBe hBe.size _⟩ <;> exact cell_new rfl rfl)
          | (with_reducible refine ⟨_, rfl, rfl, ?_, ?_, ?_, ?_, ?_, ?_, ?_, set7 e0 (by omega), set7 e1 (by omega), set7 e2 (by omega), set7 e3 (by omega), set7 e4 (by omega), set7 e5 (by omega), set7 g0 (by omega), set7 g1 (by omega), set7 g2 (by omega), set7 g3 (by omega), set7 g4 (by omega), set7 g5 (by omega), below7 hBe (by omega)⟩ <;> simp [go_sem, u0, u1, u2, u3, u4, u5, u6])
      case rest =>
        obtain ⟨bF, rfl, rfl, u0, u1, u2, u3, u4, u5, u6, x0, x1, x2, x3, x4, x5, z0, z1, z2, z3, z4, z5, hBx⟩ := hcut
        have HB := Lib.hid hBx
        clear hBx HZ
        obtain ⟨q, hqq⟩ : ∃ q, fm f g = q := ⟨_, rfl⟩
        rw [hqq] at HQ ⊢
        have HE := Lib.hid (fun _ : True => hqq)
        clear hqq
        go_wp2_with fail
        refine (TF.out _ HB.out HN.out).mono ?_
        rintro e w3 ⟨tb, th, rfl, T1, T2, hb3'⟩
        have u0 := cell_keep hb3' u0
        have u1 := cell_keep hb3' u1
        have u2 := cell_keep hb3' u2
        have u3 := cell_keep hb3' u3
        have u4 := cell_keep hb3' u4
        have u5 := cell_keep hb3' u5
        have u6 := cell_keep hb3' u6
        have x0 := cell_keep hb3' x0
        have x1 := cell_keep hb3' x1
        have x2 := cell_keep hb3' x2
        have x3 := cell_keep hb3' x3
        have x4 := cell_keep hb3' x4
        have x5 := cell_keep hb3' x5
        have z0 := cell_keep hb3' z0
        have z1 := cell_keep hb3' z1
        have z2 := cell_keep hb3' z2
        have z3 := cell_keep hb3' z3
        have z4 := cell_keep hb3' z4
        have z5 := cell_keep hb3' z5
        have HB := Lib.hid (HB.out.trans (hb3'.mono HB.out.size))
        obtain ⟨W3, hW3⟩ : ∃ W3, W3 = w3.alloc (.cells #[.int .i64 f.pub, .int .i64 f.len, .int .i64 f.dig, .int .i64 f.sign, tb, th] 39) := ⟨_, rfl⟩
        have hb3 : Below w3.heap.size w3 W3 := by rw [hW3]; (repeat' (first | exact Below.refl _ _ | assumption | refine Below.drew ?_ | refine below_drewN ?_ _ | refine Below.alloc ?_ (by omega) _ | refine Below.alloc ?_ (by simp; omega) _ | refine Below.alloc ?_ (by simp) _ | refine Below.setCell ?_ (by omega) _ | refine Below.setCell ?_ (by simp; omega) _ | refine Below.setCell ?_ (by simp) _))
        have HT1 := Lib.hid (T1.below hb3)
        have HT2 := Lib.hid (T2.below hb3)
        have p0 : W3.cell? ⟨w3.heap.size, 0, none⟩ = some (.int .i64 f.pub) := by rw [hW3]; exact cell_new rfl rfl
        have p1 : W3.cell? ⟨w3.heap.size, 1, none⟩ = some (.int .i64 f.len) := by rw [hW3]; exact cell_new rfl rfl
        have p2 : W3.cell? ⟨w3.heap.size, 2, none⟩ = some (.int .i64 f.dig) := by rw [hW3]; exact cell_new rfl rfl
        have p3 : W3.cell? ⟨w3.heap.size, 3, none⟩ = some (.int .i64 f.sign) := by rw [hW3]; exact cell_new rfl rfl
        have p4 : W3.cell? ⟨w3.heap.size, 4, none⟩ = some (tb) := by rw [hW3]; exact cell_new rfl rfl
        have p5 : W3.cell? ⟨w3.heap.size, 5, none⟩ = some (th) := by rw [hW3]; exact cell_new rfl rfl
        have u0 := cell_keep hb3 u0
        have u1 := cell_keep hb3 u1
        have u2 := cell_keep hb3 u2
        have u3 := cell_keep hb3 u3
        have u4 := cell_keep hb3 u4
        have u5 := cell_keep hb3 u5
        have u6 := cell_keep hb3 u6
        have x0 := cell_keep hb3 x0
        have x1 := cell_keep hb3 x1
        have x2 := cell_keep hb3 x2
        have x3 := cell_keep hb3 x3
        have x4 := cell_keep hb3 x4
        have x5 := cell_keep hb3 x5
        have z0 := cell_keep hb3 z0
        have z1 := cell_keep hb3 z1
        have z2 := cell_keep hb3 z2
        have z3 := cell_keep hb3 z3
        have z4 := cell_keep hb3 z4
        have z5 := cell_keep hb3 z5
        have HB := Lib.hid (HB.out.trans (hb3.mono HB.out.size))
        clear hb3' hb3
        obtain ⟨-, a5, k5, rfl, g1, g2, -⟩ := T1
        obtain ⟨-, a6, k6, rfl, g3, g4, -⟩ := T2
        go_upto_region 10 with (fail)
        rw [← hW3]
        clear hW3
        go_wp2_with fail
        refine (TG.out _ HB.out HM.out).mono ?_
        rintro e w4 ⟨sb, sh, rfl, T1, T2, hb4'⟩
        have u0 := cell_keep hb4' u0
        have u1 := cell_keep hb4' u1
        have u2 := cell_keep hb4' u2
        have u3 := cell_keep hb4' u3
        have u4 := cell_keep hb4' u4
        have u5 := cell_keep hb4' u5
        have u6 := cell_keep hb4' u6
        have x0 := cell_keep hb4' x0
        have x1 := cell_keep hb4' x1
        have x2 := cell_keep hb4' x2
        have x3 := cell_keep hb4' x3
        have x4 := cell_keep hb4' x4
        have x5 := cell_keep hb4' x5
        have z0 := cell_keep hb4' z0
        have z1 := cell_keep hb4' z1
        have z2 := cell_keep hb4' z2
        have z3 := cell_keep hb4' z3
        have z4 := cell_keep hb4' z4
        have z5 := cell_keep hb4' z5
        have p0 := cell_keep hb4' p0
        have p1 := cell_keep hb4' p1
        have p2 := cell_keep hb4' p2
        have p3 := cell_keep hb4' p3
        have p4 := cell_keep hb4' p4
        have p5 := cell_keep hb4' p5
        have HB := Lib.hid (HB.out.trans (hb4'.mono HB.out.size))
        obtain ⟨W4, hW4⟩ : ∃ W4, W4 = w4.alloc (.cells #[.int .i64 g.pub, .int .i64 g.len, .int .i64 g.dig, .int .i64 g.sign, sb, sh] 39) := ⟨_, rfl⟩
        have hb4 : Below w4.heap.size w4 W4 := by rw [hW4]; (repeat' (first | exact Below.refl _ _ | assumption | refine Below.drew ?_ | refine below_drewN ?_ _ | refine Below.alloc ?_ (by omega) _ | refine Below.alloc ?_ (by simp; omega) _ | refine Below.alloc ?_ (by simp) _ | refine Below.setCell ?_ (by omega) _ | refine Below.setCell ?_ (by simp; omega) _ | refine Below.setCell ?_ (by simp) _))
        have HT1 := Lib.hid (HT1.out.below (hb4'.trans (hb4.mono hb4'.size)))
        have HT2 := Lib.hid (HT2.out.below (hb4'.trans (hb4.mono hb4'.size)))
        have HS1 := Lib.hid (T1.below hb4)
        have HS2 := Lib.hid (T2.below hb4)
        have r0 : W4.cell? ⟨w4.heap.size, 0, none⟩ = some (.int .i64 g.pub) := by rw [hW4]; exact cell_new rfl rfl
        have r1 : W4.cell? ⟨w4.heap.size, 1, none⟩ = some (.int .i64 g.len) := by rw [hW4]; exact cell_new rfl rfl
        have r2 : W4.cell? ⟨w4.heap.size, 2, none⟩ = some (.int .i64 g.dig) := by rw [hW4]; exact cell_new rfl rfl
        have r3 : W4.cell? ⟨w4.heap.size, 3, none⟩ = some (.int .i64 g.sign) := by rw [hW4]; exact cell_new rfl rfl
        have r4 : W4.cell? ⟨w4.heap.size, 4, none⟩ = some (sb) := by rw [hW4]; exact cell_new rfl rfl
        have r5 : W4.cell? ⟨w4.heap.size, 5, none⟩ = some (sh) := by rw [hW4]; exact cell_new rfl rfl
        have u0 := cell_keep hb4 u0
        have u1 := cell_keep hb4 u1
        have u2 := cell_keep hb4 u2
        have u3 := cell_keep hb4 u3
        have u4 := cell_keep hb4 u4
        have u5 := cell_keep hb4 u5
        have u6 := cell_keep hb4 u6
        have x0 := cell_keep hb4 x0
        have x1 := cell_keep hb4 x1
        have x2 := cell_keep hb4 x2
        have x3 := cell_keep hb4 x3
        have x4 := cell_keep hb4 x4
        have x5 := cell_keep hb4 x5
        have z0 := cell_keep hb4 z0
        have z1 := cell_keep hb4 z1
        have z2 := cell_keep hb4 z2
        have z3 := cell_keep hb4 z3
        have z4 := cell_keep hb4 z4
        have z5 := cell_keep hb4 z5
        have p0 := cell_keep hb4 p0
        have p1 := cell_keep hb4 p1
        have p2 := cell_keep hb4 p2
        have p3 := cell_keep hb4 p3
        have p4 := cell_keep hb4 p4
        have p5 := cell_keep hb4 p5
        have HB := Lib.hid (HB.out.trans (hb4.mono HB.out.size))
        clear hb4' hb4
        obtain ⟨-, a7, k7, rfl, g5, g6, -⟩ := T1
        obtain ⟨-, a8, k8, rfl, g7, g8, -⟩ := T2
        go_upto_region 11 with (fail)
        rw [← hW4]
        clear hW4
        go_wp2_with fail
        refine (impFm_c f g _ _ _ _ _ HT1.out HT2.out HS1.out HS2.out).mono ?_
        rintro e w5 ⟨he, hb5'⟩
        rw [HE.out trivial, HQ.out] at he
        subst he
        have u0 := cell_keep hb5' u0
        have u1 := cell_keep hb5' u1
        have u2 := cell_keep hb5' u2
        have u3 := cell_keep hb5' u3
        have u4 := cell_keep hb5' u4
        have u5 := cell_keep hb5' u5
        have u6 := cell_keep hb5' u6
        have x0 := cell_keep hb5' x0
        have x1 := cell_keep hb5' x1
        have x2 := cell_keep hb5' x2
        have x3 := cell_keep hb5' x3
        have x4 := cell_keep hb5' x4
        have x5 := cell_keep hb5' x5
        have z0 := cell_keep hb5' z0
        have z1 := cell_keep hb5' z1
        have z2 := cell_keep hb5' z2
        have z3 := cell_keep hb5' z3
        have z4 := cell_keep hb5' z4
        have z5 := cell_keep hb5' z5
        have p0 := cell_keep hb5' p0
        have p1 := cell_keep hb5' p1
        have p2 := cell_keep hb5' p2
        have p3 := cell_keep hb5' p3
        have p4 := cell_keep hb5' p4
        have p5 := cell_keep hb5' p5
        have r0 := cell_keep hb5' r0
        have r1 := cell_keep hb5' r1
        have r2 := cell_keep hb5' r2
        have r3 := cell_keep hb5' r3
        have r4 := cell_keep hb5' r4
        have r5 := cell_keep hb5' r5
        have HB := Lib.hid (HB.out.trans (hb5'.mono HB.out.size))
        obtain ⟨W5, hW5⟩ : ∃ W5, W5 = w5.alloc (.cells #[.int .i64 q0, .int .i64 q1, .int .i64 q2, .int .i64 q3, .int .i64 q4, .int .i64 q5, .int .i64 q6] 64) := ⟨_, rfl⟩
        have hb5 : Below w5.heap.size w5 W5 := by rw [hW5]; (repeat' (first | exact Below.refl _ _ | assumption | refine Below.drew ?_ | refine below_drewN ?_ _ | refine Below.alloc ?_ (by omega) _ | refine Below.alloc ?_ (by simp; omega) _ | refine Below.alloc ?_ (by simp) _ | refine Below.setCell ?_ (by omega) _ | refine Below.setCell ?_ (by simp; omega) _ | refine Below.setCell ?_ (by simp) _))
        have HT1 := Lib.hid (HT1.out.below (hb5'.trans (hb5.mono hb5'.size)))
        have HT2 := Lib.hid (HT2.out.below (hb5'.trans (hb5.mono hb5'.size)))
        have HS1 := Lib.hid (HS1.out.below (hb5'.trans (hb5.mono hb5'.size)))
        have HS2 := Lib.hid (HS2.out.below (hb5'.trans (hb5.mono hb5'.size)))
        have v0 : W5.cell? ⟨w5.heap.size, 0, none⟩ = some (.int .i64 q0) := by rw [hW5]; exact cell_new rfl rfl
        have v1 : W5.cell? ⟨w5.heap.size, 1, none⟩ = some (.int .i64 q1) := by rw [hW5]; exact cell_new rfl rfl
        have v2 : W5.cell? ⟨w5.heap.size, 2, none⟩ = some (.int .i64 q2) := by rw [hW5]; exact cell_new rfl rfl
        have v3 : W5.cell? ⟨w5.heap.size, 3, none⟩ = some (.int .i64 q3) := by rw [hW5]; exact cell_new rfl rfl
        have v4 : W5.cell? ⟨w5.heap.size, 4, none⟩ = some (.int .i64 q4) := by rw [hW5]; exact cell_new rfl rfl
        have v5 : W5.cell? ⟨w5.heap.size, 5, none⟩ = some (.int .i64 q5) := by rw [hW5]; exact cell_new rfl rfl
        have v6 : W5.cell? ⟨w5.heap.size, 6, none⟩ = some (.int .i64 q6) := by rw [hW5]; exact cell_new rfl rfl
        have u0 := cell_keep hb5 u0
        have u1 := cell_keep hb5 u1
        have u2 := cell_keep hb5 u2
        have u3 := cell_keep hb5 u3
        have u4 := cell_keep hb5 u4
        have u5 := cell_keep hb5 u5
        have u6 := cell_keep hb5 u6
        have x0 := cell_keep hb5 x0
        have x1 := cell_keep hb5 x1
        have x2 := cell_keep hb5 x2
        have x3 := cell_keep hb5 x3
        have x4 := cell_keep hb5 x4
        have x5 := cell_keep hb5 x5
        have z0 := cell_keep hb5 z0
        have z1 := cell_keep hb5 z1
        have z2 := cell_keep hb5 z2
        have z3 := cell_keep hb5 z3
        have z4 := cell_keep hb5 z4
        have z5 := cell_keep hb5 z5
        have p0 := cell_keep hb5 p0
        have p1 := cell_keep hb5 p1
        have p2 := cell_keep hb5 p2
        have p3 := cell_keep hb5 p3
        have p4 := cell_keep hb5 p4
        have p5 := cell_keep hb5 p5
        have r0 := cell_keep hb5 r0
        have r1 := cell_keep hb5 r1
        have r2 := cell_keep hb5 r2
        have r3 := cell_keep hb5 r3
        have r4 := cell_keep hb5 r4
        have r5 := cell_keep hb5 r5
        have HB := Lib.hid (HB.out.trans (hb5.mono HB.out.size))
        clear hb5' hb5
        go_upto_region 12 with (fail)
        rw [← hW5]
        clear hW5
        go_wp2_with fail
        refine (eqFork_c q0 q1 q2 q3 q4 q5 q6 _).mono ?_
        rintro e w6 ⟨rfl, hb6'⟩
        have x0 := cell_keep hb6' x0
        have x1 := cell_keep hb6' x1
        have x2 := cell_keep hb6' x2
        have x3 := cell_keep hb6' x3
        have x4 := cell_keep hb6' x4
        have x5 := cell_keep hb6' x5
        have z0 := cell_keep hb6' z0
        have z1 := cell_keep hb6' z1
        have z2 := cell_keep hb6' z2
        have z3 := cell_keep hb6' z3
        have z4 := cell_keep hb6' z4
        have z5 := cell_keep hb6' z5
        have p0 := cell_keep hb6' p0
        have p1 := cell_keep hb6' p1
        have p2 := cell_keep hb6' p2
        have p3 := cell_keep hb6' p3
        have p4 := cell_keep hb6' p4
        have p5 := cell_keep hb6' p5
        have r0 := cell_keep hb6' r0
        have r1 := cell_keep hb6' r1
        have r2 := cell_keep hb6' r2
        have r3 := cell_keep hb6' r3
        have r4 := cell_keep hb6' r4
        have r5 := cell_keep hb6' r5
        have HB := Lib.hid (HB.out.trans (hb6'.mono HB.out.size))
        have HT1 := Lib.hid (HT1.out.below hb6')
        have HT2 := Lib.hid (HT2.out.below hb6')
        have HS1 := Lib.hid (HS1.out.below hb6')
        have HS2 := Lib.hid (HS2.out.below hb6')
        clear hb6'
        cases q
        all_goals
          go_wp2
          go_region_held3 (fun w' => w'.cell? ⟨w3.heap.size, 0, none⟩ = some (.int .i64 f.pub) ∧ w'.cell? ⟨w3.heap.size, 1, none⟩ = some (.int .i64 f.len) ∧ w'.cell? ⟨w3.heap.size, 2, none⟩ = some (.int .i64 f.dig) ∧ w'.cell? ⟨w3.heap.size, 3, none⟩ = some (.int .i64 f.sign) ∧ w'.cell? ⟨w3.heap.size, 4, none⟩ = some ((.slice a5 f.bs.length k5)) ∧ w'.cell? ⟨w3.heap.size, 5, none⟩ = some ((.slice a6 f.hv.length k6)) ∧ w'.cell? ⟨w.heap.size, 0, none⟩ = some (.int .i64 f.pub) ∧ w'.cell? ⟨w.heap.size, 1, none⟩ = some (.int .i64 f.len) ∧ w'.cell? ⟨w.heap.size, 2, none⟩ = some (.int .i64 f.dig) ∧ w'.cell? ⟨w.heap.size, 3, none⟩ = some (.int .i64 f.sign) ∧ w'.cell? ⟨w.heap.size, 4, none⟩ = some ((.slice a1 f.bs.length k1)) ∧ w'.cell? ⟨w.heap.size, 5, none⟩ = some ((.slice a2 f.hv.length k2))) (first | exact ⟨i0, i1, i2, i3, i4, i5, j0, j1, j2, j3, j4, j5⟩ | exact ⟨e0, e1, e2, e3, e4, e5, g0, g1, g2, g3, g4, g5⟩ | exact ⟨p0, p1, p2, p3, p4, p5, x0, x1, x2, x3, x4, x5⟩) ((first
            | ((with_reducible refine (TF.out _ HB.out.drew HN.out).mono ?_); rintro e w7 ⟨tb, th, rfl, T1, T2, hb7⟩; have BW7 := Lib.hid ((Below.refl w6.heap.size w6).drew.trans hb7); have HO1 := Lib.hid T1; have HO2 := Lib.hid T2; have e0 := cell_keep BW7.out p0; have g0 := cell_keep BW7.out x0; have e1 := cell_keep BW7.out p1; have g1 := cell_keep BW7.out x1; have e2 := cell_keep BW7.out p2; have g2 := cell_keep BW7.out x2; have e3 := cell_keep BW7.out p3; have g3 := cell_keep BW7.out x3; have e4 := cell_keep BW7.out p4; have g4 := cell_keep BW7.out x4; have e5 := cell_keep BW7.out p5; have g5 := cell_keep BW7.out x5; clear hb7 T1 T2)
            | ((with_reducible refine (eqFeed_c f _ _ _ _ _ (HT1.out.below BW7.out) (HT2.out.below BW7.out) HO1.out HO2.out).mono ?_); rintro e w8 ⟨rfl, hb8⟩; have BW8 := Lib.hid (BW7.out.trans (hb8.mono BW7.out.size)); have i0 := cell_keep hb8 e0; have j0 := cell_keep hb8 g0; have i1 := cell_keep hb8 e1; have j1 := cell_keep hb8 g1; have i2 := cell_keep hb8 e2; have j2 := cell_keep hb8 g2; have i3 := cell_keep hb8 e3; have j3 := cell_keep hb8 g3; have i4 := cell_keep hb8 e4; have j4 := cell_keep hb8 g4; have i5 := cell_keep hb8 e5; have j5 := cell_keep hb8 g5; clear hb8)))
          have HB8 := Lib.hid (HB.out.trans (BW8.out.mono HB.out.size))
          have HS1 := Lib.hid (HS1.out.below BW8.out)
          have HS2 := Lib.hid (HS2.out.below BW8.out)
          have r0 := cell_keep BW8.out r0
          have r1 := cell_keep BW8.out r1
          have r2 := cell_keep BW8.out r2
          have r3 := cell_keep BW8.out r3
          have r4 := cell_keep BW8.out r4
          have r5 := cell_keep BW8.out r5
          have z0 := cell_keep BW8.out z0
          have z1 := cell_keep BW8.out z1
          have z2 := cell_keep BW8.out z2
          have z3 := cell_keep BW8.out z3
          have z4 := cell_keep BW8.out z4
          have z5 := cell_keep BW8.out z5
          clear e0 g0 i0 j0 p0 x0 e1 g1 i1 j1 p1 x1 e2 g2 i2 j2 p2 x2 e3 g3 i3 j3 p3 x3 e4 g4 i4 j4 p4 x4 e5 g5 i5 j5 p5 x5
          clear HT1 HT2 HO1 HO2 BW7 BW8 HB
          go_wp2
          go_region_held3 (fun w' => w'.cell? ⟨w4.heap.size, 0, none⟩ = some (.int .i64 g.pub) ∧ w'.cell? ⟨w4.heap.size, 1, none⟩ = some (.int .i64 g.len) ∧ w'.cell? ⟨w4.heap.size, 2, none⟩ = some (.int .i64 g.dig) ∧ w'.cell? ⟨w4.heap.size, 3, none⟩ = some (.int .i64 g.sign) ∧ w'.cell? ⟨w4.heap.size, 4, none⟩ = some ((.slice a7 g.bs.length k7)) ∧ w'.cell? ⟨w4.heap.size, 5, none⟩ = some ((.slice a8 g.hv.length k8)) ∧ w'.cell? ⟨w.heap.size + 1, 0, none⟩ = some (.int .i64 g.pub) ∧ w'.cell? ⟨w.heap.size + 1, 1, none⟩ = some (.int .i64 g.len) ∧ w'.cell? ⟨w.heap.size + 1, 2, none⟩ = some (.int .i64 g.dig) ∧ w'.cell? ⟨w.heap.size + 1, 3, none⟩ = some (.int .i64 g.sign) ∧ w'.cell? ⟨w.heap.size + 1, 4, none⟩ = some ((.slice a3 g.bs.length k3)) ∧ w'.cell? ⟨w.heap.size + 1, 5, none⟩ = some ((.slice a4 g.hv.length k4))) (first | exact ⟨i0, i1, i2, i3, i4, i5, j0, j1, j2, j3, j4, j5⟩ | exact ⟨e0, e1, e2, e3, e4, e5, g0, g1, g2, g3, g4, g5⟩ | exact ⟨r0, r1, r2, r3, r4, r5, z0, z1, z2, z3, z4, z5⟩) ((first
            | ((with_reducible refine (TG.out _ HB8.out.drew HM.out).mono ?_); rintro e w9 ⟨tb, th, rfl, T1, T2, hb9⟩; have BW9 := Lib.hid ((Below.refl w8.heap.size w8).drew.trans hb9); have HO1 := Lib.hid T1; have HO2 := Lib.hid T2; have e0 := cell_keep BW9.out r0; have g0 := cell_keep BW9.out z0; have e1 := cell_keep BW9.out r1; have g1 := cell_keep BW9.out z1; have e2 := cell_keep BW9.out r2; have g2 := cell_keep BW9.out z2; have e3 := cell_keep BW9.out r3; have g3 := cell_keep BW9.out z3; have e4 := cell_keep BW9.out r4; have g4 := cell_keep BW9.out z4; have e5 := cell_keep BW9.out r5; have g5 := cell_keep BW9.out z5; clear hb9 T1 T2)
            | ((with_reducible refine (eqFeed_c g _ _ _ _ _ (HS1.out.below BW9.out) (HS2.out.below BW9.out) HO1.out HO2.out).mono ?_); rintro e wa ⟨rfl, hba⟩; have BWa := Lib.hid (BW9.out.trans (hba.mono BW9.out.size)); have i0 := cell_keep hba e0; have j0 := cell_keep hba g0; have i1 := cell_keep hba e1; have j1 := cell_keep hba g1; have i2 := cell_keep hba e2; have j2 := cell_keep hba g2; have i3 := cell_keep hba e3; have j3 := cell_keep hba g3; have i4 := cell_keep hba e4; have j4 := cell_keep hba g4; have i5 := cell_keep hba e5; have j5 := cell_keep hba g5; clear hba)))
          go_wp2
          go_ret
          exact ⟨rfl, HB8.out.trans (BWa.out.mono HB8.out.size)⟩
end Go.Proofs.Ytbjndbaljenlgaa
