/- The walk of the law FnFeedNew. -/
import Derived.Test.YtbjndbaljenlgaaDg
import Derived.Deep.DeepCutAuto
namespace Go.Proofs.Ytbjndbaljenlgaa
open Go.RowKit
set_option maxHeartbeats 1000000 in
theorem lawFnFeedNew_c (w : World) (v : Value) (n : Nat) (h : RdB w v n) : Calls Try.prog 4 #[v] w fun e w' => e = .returned (.bool true) ∧ Below w.heap.size w w' := by
  have H := Lib.hid h
  obtain ⟨a, cap, rfl, h1, h2, h3⟩ := h
  unfold maxLen at h2
  clear h3
  by_cases hl : (n : Int) > 1048576
  · go_enter Try.func4, Try.ntmps4
    go_wp2
    go_ret
    exact ⟨rfl, Below.refl _ _⟩
  · go_enter Try.func4, Try.ntmps4
    go_wp2_with fail
    refine (drawFeedNew_c _ n _ H.out).mono ?_
    rintro e w1 ⟨m, rfl, m0, m1, hb1⟩
    have HB := Lib.hid hb1
    clear hb1 H
    go_wp2_with fail
    refine (impNew_c m _).mono ?_
    rintro e w2 ⟨vb, vh, rfl, o1, o2, -, hb2⟩
    have HB := Lib.hid (HB.out.trans (hb2.mono HB.out.size))
    have hnp : inB 1 996 m = true → np m = m := fun h => by unfold np; rw [if_pos h]
    have hfv : inB 1 996 m = true → fv (ef m) = true := ef_fv m
    unfold ef at hfv
    obtain ⟨pm, hpm⟩ : ∃ pm, np m = pm := ⟨_, rfl⟩
    obtain ⟨q, hq⟩ : ∃ q, inB 1 996 m = q := ⟨_, rfl⟩
    rw [hpm, hq]
    rw [hpm, hq] at hfv
    rw [hpm, hq] at hnp
    have HPQ := Lib.hid (fun (_ : True) => And.intro hpm hq)
    have HNP := Lib.hid hnp
    have HFV := Lib.hid hfv
    clear hpm hq hnp hfv
    obtain ⟨W2, hW2⟩ : ∃ W2, W2 = w2.alloc (.cells #[.int .i64 pm, .int .i64 0, .int .i64 0, .int .i64 0, vb, vh] 39) := ⟨_, rfl⟩
    have hbW2 : Below w2.heap.size w2 W2 := by rw [hW2]; (repeat' (first | exact Below.refl _ _ | assumption | refine Below.drew ?_ | refine below_drewN ?_ _ | refine Below.alloc ?_ (by omega) _ | refine Below.alloc ?_ (by simp; omega) _ | refine Below.alloc ?_ (by simp) _ | refine Below.setCell ?_ (by omega) _ | refine Below.setCell ?_ (by simp; omega) _ | refine Below.setCell ?_ (by simp) _))
    have R1 := Lib.hid ((Rd.of_own o1).below hbW2)
    have R2 := Lib.hid ((Rd.of_own o2).below hbW2)
    obtain ⟨a1, k1, rfl⟩ := own_slice o1
    obtain ⟨a2, k2, rfl⟩ := own_slice o2
    have x0 : W2.cell? ⟨w2.heap.size, 0, none⟩ = some (.int .i64 pm) := by rw [hW2]; exact cell_new rfl rfl
    have x1 : W2.cell? ⟨w2.heap.size, 1, none⟩ = some (.int .i64 0) := by rw [hW2]; exact cell_new rfl rfl
    have x2 : W2.cell? ⟨w2.heap.size, 2, none⟩ = some (.int .i64 0) := by rw [hW2]; exact cell_new rfl rfl
    have x3 : W2.cell? ⟨w2.heap.size, 3, none⟩ = some (.int .i64 0) := by rw [hW2]; exact cell_new rfl rfl
    have x4 : W2.cell? ⟨w2.heap.size, 4, none⟩ = some (.slice a1 0 k1) := by rw [hW2]; exact cell_new rfl rfl
    have x5 : W2.cell? ⟨w2.heap.size, 5, none⟩ = some (.slice a2 0 k2) := by rw [hW2]; exact cell_new rfl rfl
    have HB := Lib.hid (HB.out.trans (hbW2.mono HB.out.size))
    clear hb2 o1 o2 hbW2
    go_upto_region 5 with (fail)
    rw [← hW2]
    clear hW2
    go_wp2_with fail
    refine (specNew_c m _).mono ?_
    rintro e w3 ⟨ub, uh, rfl, o1, o2, -, hb3⟩
    rw [(HPQ.out trivial).1, (HPQ.out trivial).2]
    obtain ⟨W3, hW3⟩ : ∃ W3, W3 = w3.alloc (.cells #[.int .i64 pm, .int .i64 0, .int .i64 0, .int .i64 0, ub, uh] 39) := ⟨_, rfl⟩
    have hbW3 : Below w3.heap.size w3 W3 := by rw [hW3]; (repeat' (first | exact Below.refl _ _ | assumption | refine Below.drew ?_ | refine below_drewN ?_ _ | refine Below.alloc ?_ (by omega) _ | refine Below.alloc ?_ (by simp; omega) _ | refine Below.alloc ?_ (by simp) _ | refine Below.setCell ?_ (by omega) _ | refine Below.setCell ?_ (by simp; omega) _ | refine Below.setCell ?_ (by simp) _))
    have hb3 := hb3.trans (hbW3.mono hb3.size)
    have R1 := Lib.hid (R1.out.below hb3)
    have R2 := Lib.hid (R2.out.below hb3)
    have R3 := Lib.hid ((Rd.of_own o1).below hbW3)
    have R4 := Lib.hid ((Rd.of_own o2).below hbW3)
    obtain ⟨a3, k3, rfl⟩ := own_slice o1
    obtain ⟨a4, k4, rfl⟩ := own_slice o2
    have x0 := cell_keep hb3 x0
    have x1 := cell_keep hb3 x1
    have x2 := cell_keep hb3 x2
    have x3 := cell_keep hb3 x3
    have x4 := cell_keep hb3 x4
    have x5 := cell_keep hb3 x5
    have y0 : W3.cell? ⟨w3.heap.size, 0, none⟩ = some (.int .i64 pm) := by rw [hW3]; exact cell_new rfl rfl
    have y1 : W3.cell? ⟨w3.heap.size, 1, none⟩ = some (.int .i64 0) := by rw [hW3]; exact cell_new rfl rfl
    have y2 : W3.cell? ⟨w3.heap.size, 2, none⟩ = some (.int .i64 0) := by rw [hW3]; exact cell_new rfl rfl
    have y3 : W3.cell? ⟨w3.heap.size, 3, none⟩ = some (.int .i64 0) := by rw [hW3]; exact cell_new rfl rfl
    have y4 : W3.cell? ⟨w3.heap.size, 4, none⟩ = some (.slice a3 0 k3) := by rw [hW3]; exact cell_new rfl rfl
    have y5 : W3.cell? ⟨w3.heap.size, 5, none⟩ = some (.slice a4 0 k4) := by rw [hW3]; exact cell_new rfl rfl
    have HB := Lib.hid (HB.out.trans (hb3.mono HB.out.size))
    clear o1 o2 hbW3 hb3
    go_upto_region 6 with (fail)
    rw [← hW3]
    clear hW3
    cases q
    · go_wp2_with fail
      refine (sameFeed_c ⟨pm, 0, 0, 0, [], []⟩ _ _ _ _ _ R1.out R2.out R3.out R4.out).mono ?_
      rintro e w4 ⟨rfl, hb4⟩
      have x0 := cell_keep hb4 x0
      have x1 := cell_keep hb4 x1
      have x2 := cell_keep hb4 x2
      have x3 := cell_keep hb4 x3
      have x4 := cell_keep hb4 x4
      have x5 := cell_keep hb4 x5
      have y0 := cell_keep hb4 y0
      have y1 := cell_keep hb4 y1
      have y2 := cell_keep hb4 y2
      have y3 := cell_keep hb4 y3
      have y4 := cell_keep hb4 y4
      have y5 := cell_keep hb4 y5
      have HB := Lib.hid (HB.out.trans (hb4.mono HB.out.size))
      have R1 := Lib.hid (R1.out.below hb4)
      have R2 := Lib.hid (R2.out.below hb4)
      have R3 := Lib.hid (R3.out.below hb4)
      have R4 := Lib.hid (R4.out.below hb4)
      clear hb4
      go_wp2_with fail
      refine (sameFeed_c ⟨pm, 0, 0, 0, [], []⟩ _ _ _ _ _ R1.out R2.out R3.out R4.out).mono ?_
      rintro e w5 ⟨rfl, hb5⟩
      have HB := Lib.hid (HB.out.trans (hb5.mono HB.out.size))
      clear hb5
      go_wp2
      go_ret
      exact ⟨rfl, HB.out⟩
    · obtain rfl : pm = m := HNP.out rfl
      have HF := Lib.hid (HFV.out rfl)
      go_wp2_with fail
      refine (sameFeed_c ⟨pm, 0, 0, 0, [], []⟩ _ _ _ _ _ R1.out R2.out R3.out R4.out).mono ?_
      rintro e w4 ⟨rfl, hb4⟩
      have x0 := cell_keep hb4 x0
      have x1 := cell_keep hb4 x1
      have x2 := cell_keep hb4 x2
      have x3 := cell_keep hb4 x3
      have x4 := cell_keep hb4 x4
      have x5 := cell_keep hb4 x5
      have HB := Lib.hid (HB.out.trans (hb4.mono HB.out.size))
      have R1 := Lib.hid (R1.out.below hb4)
      have R2 := Lib.hid (R2.out.below hb4)
      clear hb4
      go_wp2_with fail
      refine (impFv_c ⟨pm, 0, 0, 0, [], []⟩ _ _ _ R1.out R2.out).mono ?_
      rintro e w5 ⟨he, hb5⟩
      rw [HF.out] at he
      subst he
      have x0 := cell_keep hb5 x0
      have x1 := cell_keep hb5 x1
      have x2 := cell_keep hb5 x2
      have x3 := cell_keep hb5 x3
      have x4 := cell_keep hb5 x4
      have x5 := cell_keep hb5 x5
      have HB := Lib.hid (HB.out.trans (hb5.mono HB.out.size))
      clear hb5
      go_wp2
      go_ret
      exact ⟨ret_bb (by simp), HB.out⟩
end Go.Proofs.Ytbjndbaljenlgaa
