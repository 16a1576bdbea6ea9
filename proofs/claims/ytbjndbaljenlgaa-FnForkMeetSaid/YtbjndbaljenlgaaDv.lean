/- The contracts of DrawFeedValid and of DrawForkMeet. -/
import Derived.Test.YtbjndbaljenlgaaDu
namespace Go.Proofs.Ytbjndbaljenlgaa
open Go.RowKit
set_option linter.unusedSimpArgs false
/-- a zero feed in block h -/
structure Zc (W : World) (h : Nat) : Prop where
  r0 : W.cell? ⟨h, 0, none⟩ = some (.int .i64 0)
  r1 : W.cell? ⟨h, 1, none⟩ = some (.int .i64 0)
  r2 : W.cell? ⟨h, 2, none⟩ = some (.int .i64 0)
  r3 : W.cell? ⟨h, 3, none⟩ = some (.int .i64 0)
  r4 : W.cell? ⟨h, 4, none⟩ = some (.slice none 0 0)
  r5 : W.cell? ⟨h, 5, none⟩ = some (.slice none 0 0)
  fr : ∀ o, W.frozen? ⟨h, o, none⟩ = false
theorem Zc.moved {W W' : World} {h : Nat} {row : Option Nat} (f : Zc W h) (hg : W.grownBy W' row) (h1 : some h ≠ row) : Zc W' h :=
  ⟨grown_cell hg f.r0 h1, grown_cell hg f.r1 h1, grown_cell hg f.r2 h1, grown_cell hg f.r3 h1, grown_cell hg f.r4 h1, grown_cell hg f.r5 h1, fun o => (grown_frozen (a := ⟨h, o, none⟩) hg (by have := World.block_lt_of_cell? _ _ f.r0; exact this) h1).trans (f.fr o)⟩
theorem Zc.below {W W' : World} {h : Nat} (f : Zc W h) (hb : Below W.heap.size W W') : Zc W' h := f.moved (below_grown hb none) (by simp)
theorem Zc.set {W : World} {h b j : Nat} {u : Value} (f : Zc W h) (hn : h ≠ b) : Zc (W.setCell ⟨b, j, none⟩ u) h := f.moved (grown_set (World.grownBy.refl _ _)) (by simp; exact hn)
theorem sets6_rd {S : Nat → Prop} {W : World} {h n sz : Nat} {v v0 v1 v2 v3 v4 v5 : Value} {xs : List Value} (k : RdS S sz W v n xs) (hd : ¬ S h) : RdS S sz ((((((W.setCell ⟨h, 0, none⟩ v0).setCell ⟨h, 1, none⟩ v1).setCell ⟨h, 2, none⟩ v2).setCell ⟨h, 3, none⟩ v3).setCell ⟨h, 4, none⟩ v4).setCell ⟨h, 5, none⟩ v5) v n xs :=
  rds_set (rds_set (rds_set (rds_set (rds_set (rds_set k hd) hd) hd) hd) hd) hd
theorem sets6_below {B : Nat} {w W : World} {h : Nat} {v0 v1 v2 v3 v4 v5 : Value} (k : Below B w W) (hd : B ≤ h) : Below B w ((((((W.setCell ⟨h, 0, none⟩ v0).setCell ⟨h, 1, none⟩ v1).setCell ⟨h, 2, none⟩ v2).setCell ⟨h, 3, none⟩ v3).setCell ⟨h, 4, none⟩ v4).setCell ⟨h, 5, none⟩ v5) :=
  (((((k.setCell hd _).setCell hd _).setCell hd _).setCell hd _).setCell hd _).setCell hd _
/-- a drawn feed -/
def DfP (w : World) (e : Ending) (w' : World) : Prop :=
  ∃ (f : FeedV) (vb vh : Value), e = .returned (.agg #[.int .i64 f.pub, .int .i64 f.len, .int .i64 f.dig, .int .i64 f.sign, vb, vh]) ∧ RdS (fun k => w.heap.size ≤ k) 1 w' vb f.bs.length (encS f.bs) ∧ RdS (fun k => w.heap.size ≤ k) 1 w' vh f.hv.length (encB f.hv) ∧
    f.bs.length ≤ 16 ∧ f.hv.length ≤ 1001 ∧ (f.len = 0 → f.sign = 0) ∧ Below w.heap.size w w'
set_option maxHeartbeats 1600000 in
theorem drawFeedValid_c (v : Value) (n : Nat) (w : World) (h : RdB w v n) : Calls Try.prog 34 #[v] w (DfP w) := by
  obtain ⟨W0, hW0⟩ : ∃ W0, W0 = w.alloc (.cells #[.int .i64 0, .int .i64 0, .int .i64 0, .int .i64 0, .slice none 0 0, .slice none 0 0] 39) := ⟨_, rfl⟩
  have hB0 : Below w.heap.size w W0 := by rw [hW0]; (repeat' (first | exact Below.refl _ _ | assumption | refine Below.drew ?_ | refine below_drewN ?_ _ | refine Below.alloc ?_ (by omega) _ | refine Below.alloc ?_ (by simp; omega) _ | refine Below.alloc ?_ (by simp) _ | refine Below.setCell ?_ (by omega) _ | refine Below.setCell ?_ (by simp; omega) _ | refine Below.setCell ?_ (by simp) _))
  have hS0 : W0.heap.size = w.heap.size + 1 := by rw [hW0]; simp
  have z0 : Zc W0 w.heap.size := by rw [hW0]; exact ⟨cell_new rfl rfl, cell_new rfl rfl, cell_new rfl rfl, cell_new rfl rfl, cell_new rfl rfl, cell_new rfl rfl, fun o => frozen_new rfl⟩
  have h0 := h.below hB0
  go_enter Try.func34, Try.ntmps34
  go_wp2_with fail
  rw [← hW0]
  clear hW0
  refine (l6Open_c _ n _ h0).mono ?_
  rintro e w1 ⟨r, rfl, hr, hR1, hb1⟩
  have z1 := z0.below hb1
  have HB1 := hB0.trans (hb1.mono hB0.size)
  have hzr : some w.heap.size ≠ some r := by simp; omega
  clear h h0 z0
  go_wp2_with fail
  refine (good_c _ r _ _ hR1 (by omega)).mono ?_
  rintro e w2 ⟨s, rfl, -, -, hR2, hg2⟩
  have z2 := z1.moved hg2 hzr
  have HB2 := below_r HB1 hg2 (by omega)
  clear z1 HB1 hR1 hg2
  go_wp2_with fail
  refine (blocks_d _ r _ _ hR2 (by omega)).mono ?_
  rintro e w3 ⟨v3, bs, rfl, o3, hbs, hs8, hR3, hg3⟩
  have z3 := z2.moved hg3 hzr
  have HB3 := below_r HB2 hg3 (by omega)
  go_wp2_with fail
  refine (pick_c _ r _ 3 _ hR3 (by omega)).mono ?_
  rintro e w4 ⟨m, rfl, hm0, -, hR4, hg4⟩
  have z4 := z3.moved hg4 hzr
  have HB4 := below_r HB3 hg4 (by omega)
  have HV0 := (RdS.of_own (own_kept_r o3 hg4 (by have := hR2.1; have := hR2.2.1; omega))).sub (S' := fun k => k ≠ r) (fun k _ hk => by have := (own_block o3 k hk).1; have := hR2.1; have := hR2.2.1; omega)
  have ST := Lib.hid (And.intro HB4 (And.intro z4 (And.intro hR4 (And.intro HV0 (And.intro hbs hs8)))))
  have HRW := Lib.hid (And.intro hr hS0)
  obtain ⟨a3, k3, rfl⟩ : ∃ a c, v3 = .slice a bs.length c := own_slice o3
  clear z2 z3 z4 HB2 HB3 HB4 hR2 hR3 hR4 hg3 hg4 o3 hbs hs8 HV0 hb1 hB0 hr hS0 hzr
  by_cases c0 : m = 0
  · subst c0
    go_wp2_with fail
    refine (whole_d _ r _ s _ bs _ ST.out.2.2.1 (by omega) ST.out.2.2.2.1 ST.out.2.2.2.2.1 ST.out.2.2.2.2.2).mono ?_
    rintro e w5 ⟨f, vb, vh, rfl, k1, k2, k3', k4, k5, hR5, hg5⟩
    obtain ⟨a5, c5, rfl, -, -⟩ := k1.shape
    obtain ⟨a6, c6, rfl, -, -⟩ := k2.shape
    have hzr : some w.heap.size ≠ some r := by have := HRW.out; simp; omega
    have Z5 := Lib.hid (ST.out.2.1.moved hg5 hzr)
    have HB5 := Lib.hid (below_r ST.out.1 hg5 (by have := HRW.out; omega))
    have HF := Lib.hid (And.intro hR5 (And.intro k1 (And.intro k2 (And.intro k3' (And.intro k4 k5)))))
    clear hR5 hg5 k1 k2 k3' k4 k5 hzr
    go_wp2_with fail
    refine (spoilt_d _ r _ f _ _ _ HF.out.1 (by omega) HF.out.2.1 HF.out.2.2.1 HF.out.2.2.2.1 HF.out.2.2.2.2.1 HF.out.2.2.2.2.2).mono ?_
    rintro e w6 ⟨f2, vb, vh, rfl, k1, k2, k3', k4, k5, -, hg6⟩
    obtain ⟨a7, c7, rfl, -, -⟩ := k1.shape
    obtain ⟨a8, c8, rfl, -, -⟩ := k2.shape
    have Z6 := Z5.out.moved hg6 (by have := HRW.out; simp; omega)
    have HB6 := Lib.hid (below_r HB5.out hg6 (by have := HRW.out; omega))
    have HL := Lib.hid (show ¬ w5.heap.size ≤ w.heap.size by have := World.block_lt_of_cell? _ _ Z5.out.r0; show ¬ _; simp at this; omega)
    have r0 := Z6.r0
    have r1 := Z6.r1
    have r2 := Z6.r2
    have r3 := Z6.r3
    have r4 := Z6.r4
    have r5 := Z6.r5
    have fr := Z6.fr
    have HF2 := Lib.hid (And.intro k1 (And.intro k2 (And.intro k3' (And.intro k4 k5))))
    clear k1 k2 k3' k4 k5 hg6 Z6 HF Z5 ST
    go_wp2
    refine bodyPost_ret (v := .agg #[.int .i64 f2.pub, .int .i64 f2.len, .int .i64 f2.dig, .int .i64 f2.sign, .slice a7 f2.bs.length c7, .slice a8 f2.hv.length c8]) (by simp [results, Try.results34, go_sem, r0, r1, r2, r3, r4, r5]) rfl ?_
    exact ⟨f2, _, _, rfl, (sets6_rd HF2.out.1 HL.out).sub (fun k _ hk => by have := HL.out; have : w5.heap.size ≤ k := hk; show w.heap.size ≤ k; omega), (sets6_rd HF2.out.2.1 HL.out).sub (fun k _ hk => by have := HL.out; have : w5.heap.size ≤ k := hk; show w.heap.size ≤ k; omega), HF2.out.2.2.1, HF2.out.2.2.2.1, HF2.out.2.2.2.2, sets6_below HB6.out (Nat.le_refl _)⟩
  · have d0 : (m == 0) = false := by rw [beq_eq_false_iff_ne]; exact c0
    go_wp2_with fail
    refine (reader_d _ r _ s _ bs _ ST.out.2.2.1 (by omega) ST.out.2.2.2.1 ST.out.2.2.2.2.1 ST.out.2.2.2.2.2).mono ?_
    rintro e w5 ⟨f, vb, vh, rfl, k1, k2, k3', k4, k5, hR5, hg5⟩
    obtain ⟨a5, c5, rfl, -, -⟩ := k1.shape
    obtain ⟨a6, c6, rfl, -, -⟩ := k2.shape
    have hzr : some w.heap.size ≠ some r := by have := HRW.out; simp; omega
    have Z5 := Lib.hid (ST.out.2.1.moved hg5 hzr)
    have HB5 := Lib.hid (below_r ST.out.1 hg5 (by have := HRW.out; omega))
    have HF := Lib.hid (And.intro hR5 (And.intro k1 (And.intro k2 (And.intro k3' (And.intro k4 k5)))))
    clear hR5 hg5 k1 k2 k3' k4 k5 hzr
    go_wp2_with fail
    refine (spoilt_d _ r _ f _ _ _ HF.out.1 (by omega) HF.out.2.1 HF.out.2.2.1 HF.out.2.2.2.1 HF.out.2.2.2.2.1 HF.out.2.2.2.2.2).mono ?_
    rintro e w6 ⟨f2, vb, vh, rfl, k1, k2, k3', k4, k5, -, hg6⟩
    obtain ⟨a7, c7, rfl, -, -⟩ := k1.shape
    obtain ⟨a8, c8, rfl, -, -⟩ := k2.shape
    have Z6 := Z5.out.moved hg6 (by have := HRW.out; simp; omega)
    have HB6 := Lib.hid (below_r HB5.out hg6 (by have := HRW.out; omega))
    have HL := Lib.hid (show ¬ w5.heap.size ≤ w.heap.size by have := World.block_lt_of_cell? _ _ Z5.out.r0; show ¬ _; simp at this; omega)
    have r0 := Z6.r0
    have r1 := Z6.r1
    have r2 := Z6.r2
    have r3 := Z6.r3
    have r4 := Z6.r4
    have r5 := Z6.r5
    have fr := Z6.fr
    have HF2 := Lib.hid (And.intro k1 (And.intro k2 (And.intro k3' (And.intro k4 k5))))
    clear k1 k2 k3' k4 k5 hg6 Z6 HF Z5 ST
    go_wp2
    refine bodyPost_ret (v := .agg #[.int .i64 f2.pub, .int .i64 f2.len, .int .i64 f2.dig, .int .i64 f2.sign, .slice a7 f2.bs.length c7, .slice a8 f2.hv.length c8]) (by simp [results, Try.results34, go_sem, r0, r1, r2, r3, r4, r5]) rfl ?_
    exact ⟨f2, _, _, rfl, (sets6_rd HF2.out.1 HL.out).sub (fun k _ hk => by have := HL.out; have : w5.heap.size ≤ k := hk; show w.heap.size ≤ k; omega), (sets6_rd HF2.out.2.1 HL.out).sub (fun k _ hk => by have := HL.out; have : w5.heap.size ≤ k := hk; show w.heap.size ≤ k; omega), HF2.out.2.2.1, HF2.out.2.2.2.1, HF2.out.2.2.2.2, sets6_below HB6.out (Nat.le_refl _)⟩
end Go.Proofs.Ytbjndbaljenlgaa
