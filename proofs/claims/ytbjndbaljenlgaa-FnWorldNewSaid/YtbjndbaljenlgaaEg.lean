/- Contracts of laws.toFeed, eqFeed, eqFork. -/
import Derived.Test.YtbjndbaljenlgaaEf
namespace Go.Proofs.Ytbjndbaljenlgaa
open Go.RowKit
set_option linter.unusedSimpArgs false
theorem rds_set {S : Nat → Prop} {sz : Nat} {w : World} {v : Value} {n : Nat} {flat : List Value} {g j : Nat} {u : Value} (h : RdS S sz w v n flat) (hd : ¬ S g) : RdS S sz (w.setCell ⟨g, j, none⟩ u) v n flat :=
  h.chg (Chg.of_grown (grown_set (World.grownBy.refl _ _))) (fun k hk hk' => hd (by cases hk'; exact hk))
theorem rds_own {w : World} {base B : Nat} {e : TypeId} {sz : Nat} {v : Value} {n : Nat} {xs : List Value} (h : w.ownsRow B e sz v n xs) (hb : base ≤ B) : RdS (fun k => base ≤ k) sz w v n xs :=
  (RdS.of_own h).chg (Chg.refl (fun _ => False) w) (fun _ _ h => h) |>.sub (fun k _ hk => Nat.le_trans hb (own_block h k hk).1)
/-- a feed that can be read comes back -/
def FeedP (f : FeedV) (w : World) (e : Ending) (w' : World) : Prop :=
  ∃ vb vh, e = .returned (.agg #[.int .i64 f.pub, .int .i64 f.len, .int .i64 f.dig, .int .i64 f.sign, vb, vh]) ∧ Rd 1 w' vb f.bs.length (encS f.bs) ∧ Rd 1 w' vh f.hv.length (encB f.hv) ∧ Below w.heap.size w w'
set_option maxHeartbeats 1000000 in
theorem toFeed_c (f : FeedV) (vb vh : Value) (w : World) (hb : Rd 1 w vb f.bs.length (encS f.bs)) (hh : Rd 1 w vh f.hv.length (encB f.hv)) (hn : f.bs.length ≤ 1048576 ∧ f.hv.length ≤ 1048576) :
    Calls Try.prog 32 #[.agg #[.int .i64 f.pub, .int .i64 f.len, .int .i64 f.dig, .int .i64 f.sign, vb, vh]] w (FeedP f w) := by
  have TS := Lib.hid (fun W (hW : Below w.heap.size w W) => toStringS_c vb f.bs W (hb.below hW) hn.1)
  have TB := Lib.hid (fun W (hW : Below w.heap.size w W) => toBoolS_c vh f.hv W (hh.below hW) hn.2)
  have TH := Lib.hid (fun W => toHead_c f.len f.dig f.sign W)
  have HP := Lib.hid (show ∀ e w' vb vh, e = .returned (.agg #[.int .i64 f.pub, .int .i64 f.len, .int .i64 f.dig, .int .i64 f.sign, vb, vh]) → Rd 1 w' vb f.bs.length (encS f.bs) → Rd 1 w' vh f.hv.length (encB f.hv) → Below w.heap.size w w' → FeedP f w e w' from fun _ _ vb vh h1 h2 h3 h4 => ⟨vb, vh, h1, h2, h3, h4⟩)
  obtain ⟨-, a1, k1, rfl, hb1, hb2, -⟩ := hb
  obtain ⟨-, a2, k2, rfl, hh1, hh2, -⟩ := hh
  obtain ⟨p, len, dig, sign, bs, hv⟩ := f
  dsimp only at *
  generalize FeedP ⟨p, len, dig, sign, bs, hv⟩ w = post at *
  unfold maxLen at hb2 hh2
  clear hn
  generalize bs.length = n1 at *
  generalize hv.length = n2 at *
  generalize encS bs = xb at *
  generalize encB hv = xh at *
  clear bs hv
  obtain ⟨W0, hW0⟩ : ∃ W0, W0 = ((w.alloc (.cells #[.int .i64 p, .int .i64 len, .int .i64 dig, .int .i64 sign, .slice a1 n1 k1, .slice a2 n2 k2] 57)).alloc (.cells #[.int .i64 0, .int .i64 0, .int .i64 0, .int .i64 0, .slice none 0 0, .slice none 0 0] 39)).alloc (.cells #[.int .i64 p, .int .i64 0, .int .i64 0, .int .i64 0, .slice none 0 0, .slice none 0 0] 39) := ⟨_, rfl⟩
  have hB0 : Below w.heap.size w W0 := by rw [hW0]; (repeat' (first | exact Below.refl _ _ | assumption | refine Below.drew ?_ | refine below_drewN ?_ _ | refine Below.alloc ?_ (by omega) _ | refine Below.alloc ?_ (by simp; omega) _ | refine Below.alloc ?_ (by simp) _ | refine Below.setCell ?_ (by omega) _ | refine Below.setCell ?_ (by simp; omega) _ | refine Below.setCell ?_ (by simp) _))
  have hS0 : w.heap.size + 3 ≤ W0.heap.size := by rw [hW0]; simp
  have x0 : W0.cell? ⟨w.heap.size, 0, none⟩ = some (.int .i64 p) := by rw [hW0]; (repeat rw [World.cell?_alloc_lt _ _ _ (by first | (simp; done) | (simp; omega))]); exact cell_new (by simp) rfl
  have x1 : W0.cell? ⟨w.heap.size, 1, none⟩ = some (.int .i64 len) := by rw [hW0]; (repeat rw [World.cell?_alloc_lt _ _ _ (by first | (simp; done) | (simp; omega))]); exact cell_new (by simp) rfl
  have x2 : W0.cell? ⟨w.heap.size, 2, none⟩ = some (.int .i64 dig) := by rw [hW0]; (repeat rw [World.cell?_alloc_lt _ _ _ (by first | (simp; done) | (simp; omega))]); exact cell_new (by simp) rfl
  have x3 : W0.cell? ⟨w.heap.size, 3, none⟩ = some (.int .i64 sign) := by rw [hW0]; (repeat rw [World.cell?_alloc_lt _ _ _ (by first | (simp; done) | (simp; omega))]); exact cell_new (by simp) rfl
  have x4 : W0.cell? ⟨w.heap.size, 4, none⟩ = some (.slice a1 n1 k1) := by rw [hW0]; (repeat rw [World.cell?_alloc_lt _ _ _ (by first | (simp; done) | (simp; omega))]); exact cell_new (by simp) rfl
  have x5 : W0.cell? ⟨w.heap.size, 5, none⟩ = some (.slice a2 n2 k2) := by rw [hW0]; (repeat rw [World.cell?_alloc_lt _ _ _ (by first | (simp; done) | (simp; omega))]); exact cell_new (by simp) rfl
  have r0 : W0.cell? ⟨w.heap.size + 1, 0, none⟩ = some (.int .i64 0) := by rw [hW0]; (repeat rw [World.cell?_alloc_lt _ _ _ (by first | (simp; done) | (simp; omega))]); exact cell_new (by simp) rfl
  have r1 : W0.cell? ⟨w.heap.size + 1, 1, none⟩ = some (.int .i64 0) := by rw [hW0]; (repeat rw [World.cell?_alloc_lt _ _ _ (by first | (simp; done) | (simp; omega))]); exact cell_new (by simp) rfl
  have r2 : W0.cell? ⟨w.heap.size + 1, 2, none⟩ = some (.int .i64 0) := by rw [hW0]; (repeat rw [World.cell?_alloc_lt _ _ _ (by first | (simp; done) | (simp; omega))]); exact cell_new (by simp) rfl
  have r3 : W0.cell? ⟨w.heap.size + 1, 3, none⟩ = some (.int .i64 0) := by rw [hW0]; (repeat rw [World.cell?_alloc_lt _ _ _ (by first | (simp; done) | (simp; omega))]); exact cell_new (by simp) rfl
  have r4 : W0.cell? ⟨w.heap.size + 1, 4, none⟩ = some (.slice none 0 0) := by rw [hW0]; (repeat rw [World.cell?_alloc_lt _ _ _ (by first | (simp; done) | (simp; omega))]); exact cell_new (by simp) rfl
  have r5 : W0.cell? ⟨w.heap.size + 1, 5, none⟩ = some (.slice none 0 0) := by rw [hW0]; (repeat rw [World.cell?_alloc_lt _ _ _ (by first | (simp; done) | (simp; omega))]); exact cell_new (by simp) rfl
  have o0 : W0.cell? ⟨w.heap.size + 1 + 1, 0, none⟩ = some (.int .i64 p) := by rw [hW0]; (repeat rw [World.cell?_alloc_lt _ _ _ (by first | (simp; done) | (simp; omega))]); exact cell_new (by simp) rfl
  have o1 : W0.cell? ⟨w.heap.size + 1 + 1, 1, none⟩ = some (.int .i64 0) := by rw [hW0]; (repeat rw [World.cell?_alloc_lt _ _ _ (by first | (simp; done) | (simp; omega))]); exact cell_new (by simp) rfl
  have o2 : W0.cell? ⟨w.heap.size + 1 + 1, 2, none⟩ = some (.int .i64 0) := by rw [hW0]; (repeat rw [World.cell?_alloc_lt _ _ _ (by first | (simp; done) | (simp; omega))]); exact cell_new (by simp) rfl
  have o3 : W0.cell? ⟨w.heap.size + 1 + 1, 3, none⟩ = some (.int .i64 0) := by rw [hW0]; (repeat rw [World.cell?_alloc_lt _ _ _ (by first | (simp; done) | (simp; omega))]); exact cell_new (by simp) rfl
  have o4 : W0.cell? ⟨w.heap.size + 1 + 1, 4, none⟩ = some (.slice none 0 0) := by rw [hW0]; (repeat rw [World.cell?_alloc_lt _ _ _ (by first | (simp; done) | (simp; omega))]); exact cell_new (by simp) rfl
  have o5 : W0.cell? ⟨w.heap.size + 1 + 1, 5, none⟩ = some (.slice none 0 0) := by rw [hW0]; (repeat rw [World.cell?_alloc_lt _ _ _ (by first | (simp; done) | (simp; omega))]); exact cell_new (by simp) rfl
  have fr : ∀ o, W0.frozen? ⟨w.heap.size + 1, o, none⟩ = false := by intro o; rw [hW0]; exact (((Below.refl _ _).alloc (Nat.le_refl _) _).frozen (by first | (simp; done) | (simp; omega))).trans (frozen_new (by simp))
  have fo : ∀ o, W0.frozen? ⟨w.heap.size + 1 + 1, o, none⟩ = false := by intro o; rw [hW0]; exact frozen_new (by simp)
  have HB := Lib.hid hB0
  have HS := Lib.hid hS0
  clear hB0 hS0
  go_enter Try.func32, Try.ntmps32
  go_wp2_with fail
  rw [← hW0]
  clear hW0
  refine (TH.out _).mono ?_
  rintro e w1 ⟨rfl, hb1'⟩
  have x0 : w1.cell? ⟨w.heap.size, 0, none⟩ = some (.int .i64 p) := cell_keep hb1' x0
  have x1 : w1.cell? ⟨w.heap.size, 1, none⟩ = some (.int .i64 len) := cell_keep hb1' x1
  have x2 : w1.cell? ⟨w.heap.size, 2, none⟩ = some (.int .i64 dig) := cell_keep hb1' x2
  have x3 : w1.cell? ⟨w.heap.size, 3, none⟩ = some (.int .i64 sign) := cell_keep hb1' x3
  have x4 : w1.cell? ⟨w.heap.size, 4, none⟩ = some (.slice a1 n1 k1) := cell_keep hb1' x4
  have x5 : w1.cell? ⟨w.heap.size, 5, none⟩ = some (.slice a2 n2 k2) := cell_keep hb1' x5
  have r0 : w1.cell? ⟨w.heap.size + 1, 0, none⟩ = some (.int .i64 0) := cell_keep hb1' r0
  have r1 : w1.cell? ⟨w.heap.size + 1, 1, none⟩ = some (.int .i64 0) := cell_keep hb1' r1
  have r2 : w1.cell? ⟨w.heap.size + 1, 2, none⟩ = some (.int .i64 0) := cell_keep hb1' r2
  have r3 : w1.cell? ⟨w.heap.size + 1, 3, none⟩ = some (.int .i64 0) := cell_keep hb1' r3
  have r4 : w1.cell? ⟨w.heap.size + 1, 4, none⟩ = some (.slice none 0 0) := cell_keep hb1' r4
  have r5 : w1.cell? ⟨w.heap.size + 1, 5, none⟩ = some (.slice none 0 0) := cell_keep hb1' r5
  have o0 : w1.cell? ⟨w.heap.size + 1 + 1, 0, none⟩ = some (.int .i64 p) := cell_keep hb1' o0
  have o1 : w1.cell? ⟨w.heap.size + 1 + 1, 1, none⟩ = some (.int .i64 0) := cell_keep hb1' o1
  have o2 : w1.cell? ⟨w.heap.size + 1 + 1, 2, none⟩ = some (.int .i64 0) := cell_keep hb1' o2
  have o3 : w1.cell? ⟨w.heap.size + 1 + 1, 3, none⟩ = some (.int .i64 0) := cell_keep hb1' o3
  have o4 : w1.cell? ⟨w.heap.size + 1 + 1, 4, none⟩ = some (.slice none 0 0) := cell_keep hb1' o4
  have o5 : w1.cell? ⟨w.heap.size + 1 + 1, 5, none⟩ = some (.slice none 0 0) := cell_keep hb1' o5
  have fr : ∀ o, w1.frozen? ⟨w.heap.size + 1, o, none⟩ = false := fun o => (below_frozen hb1' (by have := HS.out; show w.heap.size + 1 < _; omega)).trans (fr o)
  have fo : ∀ o, w1.frozen? ⟨w.heap.size + 1 + 1, o, none⟩ = false := fun o => (below_frozen hb1' (by have := HS.out; show w.heap.size + 1 + 1 < _; omega)).trans (fo o)
  have HB := Lib.hid (HB.out.trans (hb1'.mono HB.out.size))
  have HS := Lib.hid (Nat.le_trans HS.out hb1'.size)
  clear hb1'
  obtain ⟨W1, hW1⟩ : ∃ W1, W1 = ((w1.setCell ⟨w.heap.size + 1 + 1, 1, none⟩ (.int .i64 len)).setCell ⟨w.heap.size + 1 + 1, 2, none⟩ (.int .i64 dig)).setCell ⟨w.heap.size + 1 + 1, 3, none⟩ (.int .i64 sign) := ⟨_, rfl⟩
  have hB1 : Below w.heap.size w W1 := by rw [hW1]; exact Below.setCell (Below.setCell (Below.setCell HB.out (by show w.heap.size ≤ w.heap.size + 1 + 1; omega) _) (by show w.heap.size ≤ w.heap.size + 1 + 1; omega) _) (by show w.heap.size ≤ w.heap.size + 1 + 1; omega) _
  have hS1 : w.heap.size + 3 ≤ W1.heap.size := by rw [hW1]; simpa using HS.out
  have x0 : W1.cell? ⟨w.heap.size, 0, none⟩ = some (.int .i64 p) := by rw [hW1]; simp [go_sem, x0, x1, x2, x3, x4, x5, r0, r1, r2, r3, r4, r5, o0, o1, o2, o3, o4, o5]
  have x1 : W1.cell? ⟨w.heap.size, 1, none⟩ = some (.int .i64 len) := by rw [hW1]; simp [go_sem, x0, x1, x2, x3, x4, x5, r0, r1, r2, r3, r4, r5, o0, o1, o2, o3, o4, o5]
  have x2 : W1.cell? ⟨w.heap.size, 2, none⟩ = some (.int .i64 dig) := by rw [hW1]; simp [go_sem, x0, x1, x2, x3, x4, x5, r0, r1, r2, r3, r4, r5, o0, o1, o2, o3, o4, o5]
  have x3 : W1.cell? ⟨w.heap.size, 3, none⟩ = some (.int .i64 sign) := by rw [hW1]; simp [go_sem, x0, x1, x2, x3, x4, x5, r0, r1, r2, r3, r4, r5, o0, o1, o2, o3, o4, o5]
  have x4 : W1.cell? ⟨w.heap.size, 4, none⟩ = some (.slice a1 n1 k1) := by rw [hW1]; simp [go_sem, x0, x1, x2, x3, x4, x5, r0, r1, r2, r3, r4, r5, o0, o1, o2, o3, o4, o5]
  have x5 : W1.cell? ⟨w.heap.size, 5, none⟩ = some (.slice a2 n2 k2) := by rw [hW1]; simp [go_sem, x0, x1, x2, x3, x4, x5, r0, r1, r2, r3, r4, r5, o0, o1, o2, o3, o4, o5]
  have r0 : W1.cell? ⟨w.heap.size + 1, 0, none⟩ = some (.int .i64 0) := by rw [hW1]; simp [go_sem, x0, x1, x2, x3, x4, x5, r0, r1, r2, r3, r4, r5, o0, o1, o2, o3, o4, o5]
  have r1 : W1.cell? ⟨w.heap.size + 1, 1, none⟩ = some (.int .i64 0) := by rw [hW1]; simp [go_sem, x0, x1, x2, x3, x4, x5, r0, r1, r2, r3, r4, r5, o0, o1, o2, o3, o4, o5]
  have r2 : W1.cell? ⟨w.heap.size + 1, 2, none⟩ = some (.int .i64 0) := by rw [hW1]; simp [go_sem, x0, x1, x2, x3, x4, x5, r0, r1, r2, r3, r4, r5, o0, o1, o2, o3, o4, o5]
  have r3 : W1.cell? ⟨w.heap.size + 1, 3, none⟩ = some (.int .i64 0) := by rw [hW1]; simp [go_sem, x0, x1, x2, x3, x4, x5, r0, r1, r2, r3, r4, r5, o0, o1, o2, o3, o4, o5]
  have r4 : W1.cell? ⟨w.heap.size + 1, 4, none⟩ = some (.slice none 0 0) := by rw [hW1]; simp [go_sem, x0, x1, x2, x3, x4, x5, r0, r1, r2, r3, r4, r5, o0, o1, o2, o3, o4, o5]
  have r5 : W1.cell? ⟨w.heap.size + 1, 5, none⟩ = some (.slice none 0 0) := by rw [hW1]; simp [go_sem, x0, x1, x2, x3, x4, x5, r0, r1, r2, r3, r4, r5, o0, o1, o2, o3, o4, o5]
  have o0 : W1.cell? ⟨w.heap.size + 1 + 1, 0, none⟩ = some (.int .i64 p) := by rw [hW1]; simp [go_sem, x0, x1, x2, x3, x4, x5, r0, r1, r2, r3, r4, r5, o0, o1, o2, o3, o4, o5]
  have o1 : W1.cell? ⟨w.heap.size + 1 + 1, 1, none⟩ = some (.int .i64 len) := by rw [hW1]; simp [go_sem, x0, x1, x2, x3, x4, x5, r0, r1, r2, r3, r4, r5, o0, o1, o2, o3, o4, o5]
  have o2 : W1.cell? ⟨w.heap.size + 1 + 1, 2, none⟩ = some (.int .i64 dig) := by rw [hW1]; simp [go_sem, x0, x1, x2, x3, x4, x5, r0, r1, r2, r3, r4, r5, o0, o1, o2, o3, o4, o5]
  have o3 : W1.cell? ⟨w.heap.size + 1 + 1, 3, none⟩ = some (.int .i64 sign) := by rw [hW1]; simp [go_sem, x0, x1, x2, x3, x4, x5, r0, r1, r2, r3, r4, r5, o0, o1, o2, o3, o4, o5]
  have o4 : W1.cell? ⟨w.heap.size + 1 + 1, 4, none⟩ = some (.slice none 0 0) := by rw [hW1]; simp [go_sem, x0, x1, x2, x3, x4, x5, r0, r1, r2, r3, r4, r5, o0, o1, o2, o3, o4, o5]
  have o5 : W1.cell? ⟨w.heap.size + 1 + 1, 5, none⟩ = some (.slice none 0 0) := by rw [hW1]; simp [go_sem, x0, x1, x2, x3, x4, x5, r0, r1, r2, r3, r4, r5, o0, o1, o2, o3, o4, o5]
  have fr : ∀ o, W1.frozen? ⟨w.heap.size + 1, o, none⟩ = false := by intro o; rw [hW1]; simp [fr o]
  have fo : ∀ o, W1.frozen? ⟨w.heap.size + 1 + 1, o, none⟩ = false := by intro o; rw [hW1]; simp [fo o]
  have HBO := Lib.hid HB.out
  have HB := Lib.hid hB1
  have HS := Lib.hid hS1
  clear hB1 hS1 HBO
  go_wp2_with fail
  rw [← hW1]
  clear hW1
  refine (TS.out _ HB.out).mono ?_
  rintro e w2 ⟨v3, rfl, hown3, hb2'⟩
  obtain ⟨a3, k3', rfl⟩ := own_slice hown3
  have R3 := Lib.hid (rds_own hown3 HS.out)
  clear hown3
  have x0 : w2.cell? ⟨w.heap.size, 0, none⟩ = some (.int .i64 p) := cell_keep hb2' x0
  have x1 : w2.cell? ⟨w.heap.size, 1, none⟩ = some (.int .i64 len) := cell_keep hb2' x1
  have x2 : w2.cell? ⟨w.heap.size, 2, none⟩ = some (.int .i64 dig) := cell_keep hb2' x2
  have x3 : w2.cell? ⟨w.heap.size, 3, none⟩ = some (.int .i64 sign) := cell_keep hb2' x3
  have x4 : w2.cell? ⟨w.heap.size, 4, none⟩ = some (.slice a1 n1 k1) := cell_keep hb2' x4
  have x5 : w2.cell? ⟨w.heap.size, 5, none⟩ = some (.slice a2 n2 k2) := cell_keep hb2' x5
  have r0 : w2.cell? ⟨w.heap.size + 1, 0, none⟩ = some (.int .i64 0) := cell_keep hb2' r0
  have r1 : w2.cell? ⟨w.heap.size + 1, 1, none⟩ = some (.int .i64 0) := cell_keep hb2' r1
  have r2 : w2.cell? ⟨w.heap.size + 1, 2, none⟩ = some (.int .i64 0) := cell_keep hb2' r2
  have r3 : w2.cell? ⟨w.heap.size + 1, 3, none⟩ = some (.int .i64 0) := cell_keep hb2' r3
  have r4 : w2.cell? ⟨w.heap.size + 1, 4, none⟩ = some (.slice none 0 0) := cell_keep hb2' r4
  have r5 : w2.cell? ⟨w.heap.size + 1, 5, none⟩ = some (.slice none 0 0) := cell_keep hb2' r5
  have o0 : w2.cell? ⟨w.heap.size + 1 + 1, 0, none⟩ = some (.int .i64 p) := cell_keep hb2' o0
  have o1 : w2.cell? ⟨w.heap.size + 1 + 1, 1, none⟩ = some (.int .i64 len) := cell_keep hb2' o1
  have o2 : w2.cell? ⟨w.heap.size + 1 + 1, 2, none⟩ = some (.int .i64 dig) := cell_keep hb2' o2
  have o3 : w2.cell? ⟨w.heap.size + 1 + 1, 3, none⟩ = some (.int .i64 sign) := cell_keep hb2' o3
  have o4 : w2.cell? ⟨w.heap.size + 1 + 1, 4, none⟩ = some (.slice none 0 0) := cell_keep hb2' o4
  have o5 : w2.cell? ⟨w.heap.size + 1 + 1, 5, none⟩ = some (.slice none 0 0) := cell_keep hb2' o5
  have fr : ∀ o, w2.frozen? ⟨w.heap.size + 1, o, none⟩ = false := fun o => (below_frozen hb2' (by have := HS.out; show w.heap.size + 1 < _; omega)).trans (fr o)
  have fo : ∀ o, w2.frozen? ⟨w.heap.size + 1 + 1, o, none⟩ = false := fun o => (below_frozen hb2' (by have := HS.out; show w.heap.size + 1 + 1 < _; omega)).trans (fo o)
  have HB := Lib.hid (HB.out.trans (hb2'.mono HB.out.size))
  have HS := Lib.hid (Nat.le_trans HS.out hb2'.size)
  clear hb2'
  obtain ⟨W2, hW2⟩ : ∃ W2, W2 = w2.setCell ⟨w.heap.size + 1 + 1, 4, none⟩ (.slice a3 n1 k3') := ⟨_, rfl⟩
  have hB2 : Below w.heap.size w W2 := by rw [hW2]; exact Below.setCell HB.out (by show w.heap.size ≤ w.heap.size + 1 + 1; omega) _
  have hS2 : w.heap.size + 3 ≤ W2.heap.size := by rw [hW2]; simpa using HS.out
  have x0 : W2.cell? ⟨w.heap.size, 0, none⟩ = some (.int .i64 p) := by rw [hW2]; simp [go_sem, x0, x1, x2, x3, x4, x5, r0, r1, r2, r3, r4, r5, o0, o1, o2, o3, o4, o5]
  have x1 : W2.cell? ⟨w.heap.size, 1, none⟩ = some (.int .i64 len) := by rw [hW2]; simp [go_sem, x0, x1, x2, x3, x4, x5, r0, r1, r2, r3, r4, r5, o0, o1, o2, o3, o4, o5]
  have x2 : W2.cell? ⟨w.heap.size, 2, none⟩ = some (.int .i64 dig) := by rw [hW2]; simp [go_sem, x0, x1, x2, x3, x4, x5, r0, r1, r2, r3, r4, r5, o0, o1, o2, o3, o4, o5]
  have x3 : W2.cell? ⟨w.heap.size, 3, none⟩ = some (.int .i64 sign) := by rw [hW2]; simp [go_sem, x0, x1, x2, x3, x4, x5, r0, r1, r2, r3, r4, r5, o0, o1, o2, o3, o4, o5]
  have x4 : W2.cell? ⟨w.heap.size, 4, none⟩ = some (.slice a1 n1 k1) := by rw [hW2]; simp [go_sem, x0, x1, x2, x3, x4, x5, r0, r1, r2, r3, r4, r5, o0, o1, o2, o3, o4, o5]
  have x5 : W2.cell? ⟨w.heap.size, 5, none⟩ = some (.slice a2 n2 k2) := by rw [hW2]; simp [go_sem, x0, x1, x2, x3, x4, x5, r0, r1, r2, r3, r4, r5, o0, o1, o2, o3, o4, o5]
  have r0 : W2.cell? ⟨w.heap.size + 1, 0, none⟩ = some (.int .i64 0) := by rw [hW2]; simp [go_sem, x0, x1, x2, x3, x4, x5, r0, r1, r2, r3, r4, r5, o0, o1, o2, o3, o4, o5]
  have r1 : W2.cell? ⟨w.heap.size + 1, 1, none⟩ = some (.int .i64 0) := by rw [hW2]; simp [go_sem, x0, x1, x2, x3, x4, x5, r0, r1, r2, r3, r4, r5, o0, o1, o2, o3, o4, o5]
  have r2 : W2.cell? ⟨w.heap.size + 1, 2, none⟩ = some (.int .i64 0) := by rw [hW2]; simp [go_sem, x0, x1, x2, x3, x4, x5, r0, r1, r2, r3, r4, r5, o0, o1, o2, o3, o4, o5]
  have r3 : W2.cell? ⟨w.heap.size + 1, 3, none⟩ = some (.int .i64 0) := by rw [hW2]; simp [go_sem, x0, x1, x2, x3, x4, x5, r0, r1, r2, r3, r4, r5, o0, o1, o2, o3, o4, o5]
  have r4 : W2.cell? ⟨w.heap.size + 1, 4, none⟩ = some (.slice none 0 0) := by rw [hW2]; simp [go_sem, x0, x1, x2, x3, x4, x5, r0, r1, r2, r3, r4, r5, o0, o1, o2, o3, o4, o5]
  have r5 : W2.cell? ⟨w.heap.size + 1, 5, none⟩ = some (.slice none 0 0) := by rw [hW2]; simp [go_sem, x0, x1, x2, x3, x4, x5, r0, r1, r2, r3, r4, r5, o0, o1, o2, o3, o4, o5]
  have o0 : W2.cell? ⟨w.heap.size + 1 + 1, 0, none⟩ = some (.int .i64 p) := by rw [hW2]; simp [go_sem, x0, x1, x2, x3, x4, x5, r0, r1, r2, r3, r4, r5, o0, o1, o2, o3, o4, o5]
  have o1 : W2.cell? ⟨w.heap.size + 1 + 1, 1, none⟩ = some (.int .i64 len) := by rw [hW2]; simp [go_sem, x0, x1, x2, x3, x4, x5, r0, r1, r2, r3, r4, r5, o0, o1, o2, o3, o4, o5]
  have o2 : W2.cell? ⟨w.heap.size + 1 + 1, 2, none⟩ = some (.int .i64 dig) := by rw [hW2]; simp [go_sem, x0, x1, x2, x3, x4, x5, r0, r1, r2, r3, r4, r5, o0, o1, o2, o3, o4, o5]
  have o3 : W2.cell? ⟨w.heap.size + 1 + 1, 3, none⟩ = some (.int .i64 sign) := by rw [hW2]; simp [go_sem, x0, x1, x2, x3, x4, x5, r0, r1, r2, r3, r4, r5, o0, o1, o2, o3, o4, o5]
  have o4 : W2.cell? ⟨w.heap.size + 1 + 1, 4, none⟩ = some (.slice a3 n1 k3') := by rw [hW2]; simp [go_sem, x0, x1, x2, x3, x4, x5, r0, r1, r2, r3, r4, r5, o0, o1, o2, o3, o4, o5]
  have o5 : W2.cell? ⟨w.heap.size + 1 + 1, 5, none⟩ = some (.slice none 0 0) := by rw [hW2]; simp [go_sem, x0, x1, x2, x3, x4, x5, r0, r1, r2, r3, r4, r5, o0, o1, o2, o3, o4, o5]
  have fr : ∀ o, W2.frozen? ⟨w.heap.size + 1, o, none⟩ = false := by intro o; rw [hW2]; simp [fr o]
  have fo : ∀ o, W2.frozen? ⟨w.heap.size + 1 + 1, o, none⟩ = false := by intro o; rw [hW2]; simp [fo o]
  have R3 : Hid (RdS (fun k => w.heap.size + 3 ≤ k) 1 W2 (.slice a3 n1 k3') n1 xb) := by rw [hW2]; exact rds_set R3.out (by show ¬ (w.heap.size + 3 ≤ w.heap.size + 1 + 1); omega)
  have HB := Lib.hid hB2
  have HS := Lib.hid hS2
  clear hB2 hS2
  go_wp2_with fail
  rw [← hW2]
  clear hW2
  refine (TB.out _ HB.out).mono ?_
  rintro e w3 ⟨v4, rfl, hown4, hb3'⟩
  obtain ⟨a4, k4', rfl⟩ := own_slice hown4
  have R4 := Lib.hid (rds_own hown4 HS.out)
  have R3 := Lib.hid (R3.out.below hb3')
  clear hown4
  have x0 : w3.cell? ⟨w.heap.size, 0, none⟩ = some (.int .i64 p) := cell_keep hb3' x0
  have x1 : w3.cell? ⟨w.heap.size, 1, none⟩ = some (.int .i64 len) := cell_keep hb3' x1
  have x2 : w3.cell? ⟨w.heap.size, 2, none⟩ = some (.int .i64 dig) := cell_keep hb3' x2
  have x3 : w3.cell? ⟨w.heap.size, 3, none⟩ = some (.int .i64 sign) := cell_keep hb3' x3
  have x4 : w3.cell? ⟨w.heap.size, 4, none⟩ = some (.slice a1 n1 k1) := cell_keep hb3' x4
  have x5 : w3.cell? ⟨w.heap.size, 5, none⟩ = some (.slice a2 n2 k2) := cell_keep hb3' x5
  have r0 : w3.cell? ⟨w.heap.size + 1, 0, none⟩ = some (.int .i64 0) := cell_keep hb3' r0
  have r1 : w3.cell? ⟨w.heap.size + 1, 1, none⟩ = some (.int .i64 0) := cell_keep hb3' r1
  have r2 : w3.cell? ⟨w.heap.size + 1, 2, none⟩ = some (.int .i64 0) := cell_keep hb3' r2
  have r3 : w3.cell? ⟨w.heap.size + 1, 3, none⟩ = some (.int .i64 0) := cell_keep hb3' r3
  have r4 : w3.cell? ⟨w.heap.size + 1, 4, none⟩ = some (.slice none 0 0) := cell_keep hb3' r4
  have r5 : w3.cell? ⟨w.heap.size + 1, 5, none⟩ = some (.slice none 0 0) := cell_keep hb3' r5
  have o0 : w3.cell? ⟨w.heap.size + 1 + 1, 0, none⟩ = some (.int .i64 p) := cell_keep hb3' o0
  have o1 : w3.cell? ⟨w.heap.size + 1 + 1, 1, none⟩ = some (.int .i64 len) := cell_keep hb3' o1
  have o2 : w3.cell? ⟨w.heap.size + 1 + 1, 2, none⟩ = some (.int .i64 dig) := cell_keep hb3' o2
  have o3 : w3.cell? ⟨w.heap.size + 1 + 1, 3, none⟩ = some (.int .i64 sign) := cell_keep hb3' o3
  have o4 : w3.cell? ⟨w.heap.size + 1 + 1, 4, none⟩ = some (.slice a3 n1 k3') := cell_keep hb3' o4
  have o5 : w3.cell? ⟨w.heap.size + 1 + 1, 5, none⟩ = some (.slice none 0 0) := cell_keep hb3' o5
  have fr : ∀ o, w3.frozen? ⟨w.heap.size + 1, o, none⟩ = false := fun o => (below_frozen hb3' (by have := HS.out; show w.heap.size + 1 < _; omega)).trans (fr o)
  have fo : ∀ o, w3.frozen? ⟨w.heap.size + 1 + 1, o, none⟩ = false := fun o => (below_frozen hb3' (by have := HS.out; show w.heap.size + 1 + 1 < _; omega)).trans (fo o)
  have HB := Lib.hid (HB.out.trans (hb3'.mono HB.out.size))
  have HS := Lib.hid (Nat.le_trans HS.out hb3'.size)
  clear hb3'
  go_wp2
  refine bodyPost_ret (v := .agg #[.int .i64 p, .int .i64 len, .int .i64 dig, .int .i64 sign, .slice a3 n1 k3', .slice a4 n2 k4']) (by simp [results, Try.results32, go_sem, r0, r1, r2, r3, r4, r5]) rfl ?_
  exact HP.out _ _ _ _ rfl (rds_set (rds_set (rds_set (rds_set (rds_set (rds_set (rds_set R3.out (by show ¬ (w.heap.size + 3 ≤ w.heap.size + 1 + 1); omega)) (by show ¬ (w.heap.size + 3 ≤ w.heap.size + 1); omega)) (by show ¬ (w.heap.size + 3 ≤ w.heap.size + 1); omega)) (by show ¬ (w.heap.size + 3 ≤ w.heap.size + 1); omega)) (by show ¬ (w.heap.size + 3 ≤ w.heap.size + 1); omega)) (by show ¬ (w.heap.size + 3 ≤ w.heap.size + 1); omega)) (by show ¬ (w.heap.size + 3 ≤ w.heap.size + 1); omega)).rd (rds_set (rds_set (rds_set (rds_set (rds_set (rds_set (rds_set R4.out (by show ¬ (w.heap.size + 3 ≤ w.heap.size + 1 + 1); omega)) (by show ¬ (w.heap.size + 3 ≤ w.heap.size + 1); omega)) (by show ¬ (w.heap.size + 3 ≤ w.heap.size + 1); omega)) (by show ¬ (w.heap.size + 3 ≤ w.heap.size + 1); omega)) (by show ¬ (w.heap.size + 3 ≤ w.heap.size + 1); omega)) (by show ¬ (w.heap.size + 3 ≤ w.heap.size + 1); omega)) (by show ¬ (w.heap.size + 3 ≤ w.heap.size + 1); omega)).rd (Below.setCell (Below.setCell (Below.setCell (Below.setCell (Below.setCell (Below.setCell (Below.setCell HB.out (by show w.heap.size ≤ w.heap.size + 1 + 1; omega) _) (by show w.heap.size ≤ w.heap.size + 1; omega) _) (by show w.heap.size ≤ w.heap.size + 1; omega) _) (by show w.heap.size ≤ w.heap.size + 1; omega) _) (by show w.heap.size ≤ w.heap.size + 1; omega) _) (by show w.heap.size ≤ w.heap.size + 1; omega) _) (by show w.heap.size ≤ w.heap.size + 1; omega) _)
theorem eqFeed_c (f : FeedV) (vb vh ub uh : Value) (w : World) (hb : Rd 1 w vb f.bs.length (encS f.bs)) (hh : Rd 1 w vh f.hv.length (encB f.hv)) (kb : Rd 1 w ub f.bs.length (encS f.bs)) (kh : Rd 1 w uh f.hv.length (encB f.hv)) :
    Calls Try.prog 33 #[.agg #[.int .i64 f.pub, .int .i64 f.len, .int .i64 f.dig, .int .i64 f.sign, vb, vh], .agg #[.int .i64 f.pub, .int .i64 f.len, .int .i64 f.dig, .int .i64 f.sign, ub, uh]] w (RetBool true w) := by
  have ES := Lib.hid (fun W (hW : Below w.heap.size w W) => eqStringS_c vb ub f.bs W (hb.below hW) (kb.below hW))
  have EB := Lib.hid (fun W (hW : Below w.heap.size w W) => eqBoolS_c vh uh f.hv W (hh.below hW) (kh.below hW))
  have EH := Lib.hid (fun W => eqHead_c f.len f.dig f.sign W)
  obtain ⟨-, a1, k1, rfl, hb1, hb2, -⟩ := hb
  obtain ⟨-, a2, k2, rfl, hh1, hh2, -⟩ := hh
  obtain ⟨-, a3, k3, rfl, kb1, kb2, -⟩ := kb
  obtain ⟨-, a4, k4, rfl, kh1, kh2, -⟩ := kh
  obtain ⟨p, len, dig, sign, bs, hv⟩ := f
  dsimp only at *
  unfold maxLen at hb2 hh2 kb2 kh2
  generalize bs.length = n1 at *
  generalize hv.length = n2 at *
  clear bs hv
  obtain ⟨W0, hW0⟩ : ∃ W0, W0 = (w.alloc (.cells #[.int .i64 p, .int .i64 len, .int .i64 dig, .int .i64 sign, .slice a1 n1 k1, .slice a2 n2 k2] 39)).alloc (.cells #[.int .i64 p, .int .i64 len, .int .i64 dig, .int .i64 sign, .slice a3 n1 k3, .slice a4 n2 k4] 39) := ⟨_, rfl⟩
  have hB0 : Below w.heap.size w W0 := by rw [hW0]; (repeat' (first | exact Below.refl _ _ | assumption | refine Below.drew ?_ | refine below_drewN ?_ _ | refine Below.alloc ?_ (by omega) _ | refine Below.alloc ?_ (by simp; omega) _ | refine Below.alloc ?_ (by simp) _ | refine Below.setCell ?_ (by omega) _ | refine Below.setCell ?_ (by simp; omega) _ | refine Below.setCell ?_ (by simp) _))
  have x0 : W0.cell? ⟨w.heap.size, 0, none⟩ = some (.int .i64 p) := by rw [hW0]; (repeat rw [World.cell?_alloc_lt _ _ _ (by first | (simp; done) | (simp; omega))]); exact cell_new (by simp) rfl
  have x1 : W0.cell? ⟨w.heap.size, 1, none⟩ = some (.int .i64 len) := by rw [hW0]; (repeat rw [World.cell?_alloc_lt _ _ _ (by first | (simp; done) | (simp; omega))]); exact cell_new (by simp) rfl
  have x2 : W0.cell? ⟨w.heap.size, 2, none⟩ = some (.int .i64 dig) := by rw [hW0]; (repeat rw [World.cell?_alloc_lt _ _ _ (by first | (simp; done) | (simp; omega))]); exact cell_new (by simp) rfl
  have x3 : W0.cell? ⟨w.heap.size, 3, none⟩ = some (.int .i64 sign) := by rw [hW0]; (repeat rw [World.cell?_alloc_lt _ _ _ (by first | (simp; done) | (simp; omega))]); exact cell_new (by simp) rfl
  have x4 : W0.cell? ⟨w.heap.size, 4, none⟩ = some (.slice a1 n1 k1) := by rw [hW0]; (repeat rw [World.cell?_alloc_lt _ _ _ (by first | (simp; done) | (simp; omega))]); exact cell_new (by simp) rfl
  have x5 : W0.cell? ⟨w.heap.size, 5, none⟩ = some (.slice a2 n2 k2) := by rw [hW0]; (repeat rw [World.cell?_alloc_lt _ _ _ (by first | (simp; done) | (simp; omega))]); exact cell_new (by simp) rfl
  have y0 : W0.cell? ⟨w.heap.size + 1, 0, none⟩ = some (.int .i64 p) := by rw [hW0]; (repeat rw [World.cell?_alloc_lt _ _ _ (by first | (simp; done) | (simp; omega))]); exact cell_new (by simp) rfl
  have y1 : W0.cell? ⟨w.heap.size + 1, 1, none⟩ = some (.int .i64 len) := by rw [hW0]; (repeat rw [World.cell?_alloc_lt _ _ _ (by first | (simp; done) | (simp; omega))]); exact cell_new (by simp) rfl
  have y2 : W0.cell? ⟨w.heap.size + 1, 2, none⟩ = some (.int .i64 dig) := by rw [hW0]; (repeat rw [World.cell?_alloc_lt _ _ _ (by first | (simp; done) | (simp; omega))]); exact cell_new (by simp) rfl
  have y3 : W0.cell? ⟨w.heap.size + 1, 3, none⟩ = some (.int .i64 sign) := by rw [hW0]; (repeat rw [World.cell?_alloc_lt _ _ _ (by first | (simp; done) | (simp; omega))]); exact cell_new (by simp) rfl
  have y4 : W0.cell? ⟨w.heap.size + 1, 4, none⟩ = some (.slice a3 n1 k3) := by rw [hW0]; (repeat rw [World.cell?_alloc_lt _ _ _ (by first | (simp; done) | (simp; omega))]); exact cell_new (by simp) rfl
  have y5 : W0.cell? ⟨w.heap.size + 1, 5, none⟩ = some (.slice a4 n2 k4) := by rw [hW0]; (repeat rw [World.cell?_alloc_lt _ _ _ (by first | (simp; done) | (simp; omega))]); exact cell_new (by simp) rfl
  have HB := Lib.hid hB0
  clear hB0
  go_enter Try.func33, Try.ntmps33
  go_wp2_with fail
  rw [← hW0]
  clear hW0
  refine (EH.out _).mono ?_
  rintro e w1 ⟨rfl, hb1'⟩
  have x0 : w1.cell? ⟨w.heap.size, 0, none⟩ = some (.int .i64 p) := cell_keep hb1' x0
  have x1 : w1.cell? ⟨w.heap.size, 1, none⟩ = some (.int .i64 len) := cell_keep hb1' x1
  have x2 : w1.cell? ⟨w.heap.size, 2, none⟩ = some (.int .i64 dig) := cell_keep hb1' x2
  have x3 : w1.cell? ⟨w.heap.size, 3, none⟩ = some (.int .i64 sign) := cell_keep hb1' x3
  have x4 : w1.cell? ⟨w.heap.size, 4, none⟩ = some (.slice a1 n1 k1) := cell_keep hb1' x4
  have x5 : w1.cell? ⟨w.heap.size, 5, none⟩ = some (.slice a2 n2 k2) := cell_keep hb1' x5
  have y0 : w1.cell? ⟨w.heap.size + 1, 0, none⟩ = some (.int .i64 p) := cell_keep hb1' y0
  have y1 : w1.cell? ⟨w.heap.size + 1, 1, none⟩ = some (.int .i64 len) := cell_keep hb1' y1
  have y2 : w1.cell? ⟨w.heap.size + 1, 2, none⟩ = some (.int .i64 dig) := cell_keep hb1' y2
  have y3 : w1.cell? ⟨w.heap.size + 1, 3, none⟩ = some (.int .i64 sign) := cell_keep hb1' y3
  have y4 : w1.cell? ⟨w.heap.size + 1, 4, none⟩ = some (.slice a3 n1 k3) := cell_keep hb1' y4
  have y5 : w1.cell? ⟨w.heap.size + 1, 5, none⟩ = some (.slice a4 n2 k4) := cell_keep hb1' y5
  have HB := Lib.hid (HB.out.trans (hb1'.mono HB.out.size))
  clear hb1'
  go_wp2_with fail
  refine (ES.out _ HB.out).mono ?_
  rintro e w2 ⟨rfl, hb2'⟩
  have x0 : w2.cell? ⟨w.heap.size, 0, none⟩ = some (.int .i64 p) := cell_keep hb2' x0
  have x1 : w2.cell? ⟨w.heap.size, 1, none⟩ = some (.int .i64 len) := cell_keep hb2' x1
  have x2 : w2.cell? ⟨w.heap.size, 2, none⟩ = some (.int .i64 dig) := cell_keep hb2' x2
  have x3 : w2.cell? ⟨w.heap.size, 3, none⟩ = some (.int .i64 sign) := cell_keep hb2' x3
  have x4 : w2.cell? ⟨w.heap.size, 4, none⟩ = some (.slice a1 n1 k1) := cell_keep hb2' x4
  have x5 : w2.cell? ⟨w.heap.size, 5, none⟩ = some (.slice a2 n2 k2) := cell_keep hb2' x5
  have y0 : w2.cell? ⟨w.heap.size + 1, 0, none⟩ = some (.int .i64 p) := cell_keep hb2' y0
  have y1 : w2.cell? ⟨w.heap.size + 1, 1, none⟩ = some (.int .i64 len) := cell_keep hb2' y1
  have y2 : w2.cell? ⟨w.heap.size + 1, 2, none⟩ = some (.int .i64 dig) := cell_keep hb2' y2
  have y3 : w2.cell? ⟨w.heap.size + 1, 3, none⟩ = some (.int .i64 sign) := cell_keep hb2' y3
  have y4 : w2.cell? ⟨w.heap.size + 1, 4, none⟩ = some (.slice a3 n1 k3) := cell_keep hb2' y4
  have y5 : w2.cell? ⟨w.heap.size + 1, 5, none⟩ = some (.slice a4 n2 k4) := cell_keep hb2' y5
  have HB := Lib.hid (HB.out.trans (hb2'.mono HB.out.size))
  clear hb2'
  go_wp2_with fail
  refine (EB.out _ HB.out).mono ?_
  rintro e w3 ⟨rfl, hb3'⟩
  have HB := Lib.hid (HB.out.trans (hb3'.mono HB.out.size))
  clear hb3'
  go_wp2
  go_ret
  exact ⟨rfl, HB.out⟩
theorem eqFork_c (p la da sa lb db sb : Int) (w : World) : Calls Try.prog 37 #[.agg #[.int .i64 p, .int .i64 la, .int .i64 da, .int .i64 sa, .int .i64 lb, .int .i64 db, .int .i64 sb], .agg #[.int .i64 p, .int .i64 la, .int .i64 da, .int .i64 sa, .int .i64 lb, .int .i64 db, .int .i64 sb]] w (RetBool true w) := by
  obtain ⟨W0, hW0⟩ : ∃ W0, W0 = (w.alloc (.cells #[.int .i64 p, .int .i64 la, .int .i64 da, .int .i64 sa, .int .i64 lb, .int .i64 db, .int .i64 sb] 64)).alloc (.cells #[.int .i64 p, .int .i64 la, .int .i64 da, .int .i64 sa, .int .i64 lb, .int .i64 db, .int .i64 sb] 64) := ⟨_, rfl⟩
  have hB0 : Below w.heap.size w W0 := by rw [hW0]; (repeat' (first | exact Below.refl _ _ | assumption | refine Below.drew ?_ | refine below_drewN ?_ _ | refine Below.alloc ?_ (by omega) _ | refine Below.alloc ?_ (by simp; omega) _ | refine Below.alloc ?_ (by simp) _ | refine Below.setCell ?_ (by omega) _ | refine Below.setCell ?_ (by simp; omega) _ | refine Below.setCell ?_ (by simp) _))
  have x0 : W0.cell? ⟨w.heap.size, 0, none⟩ = some (.int .i64 p) := by rw [hW0]; (repeat rw [World.cell?_alloc_lt _ _ _ (by first | (simp; done) | (simp; omega))]); exact cell_new (by simp) rfl
  have x1 : W0.cell? ⟨w.heap.size, 1, none⟩ = some (.int .i64 la) := by rw [hW0]; (repeat rw [World.cell?_alloc_lt _ _ _ (by first | (simp; done) | (simp; omega))]); exact cell_new (by simp) rfl
  have x2 : W0.cell? ⟨w.heap.size, 2, none⟩ = some (.int .i64 da) := by rw [hW0]; (repeat rw [World.cell?_alloc_lt _ _ _ (by first | (simp; done) | (simp; omega))]); exact cell_new (by simp) rfl
  have x3 : W0.cell? ⟨w.heap.size, 3, none⟩ = some (.int .i64 sa) := by rw [hW0]; (repeat rw [World.cell?_alloc_lt _ _ _ (by first | (simp; done) | (simp; omega))]); exact cell_new (by simp) rfl
  have x4 : W0.cell? ⟨w.heap.size, 4, none⟩ = some (.int .i64 lb) := by rw [hW0]; (repeat rw [World.cell?_alloc_lt _ _ _ (by first | (simp; done) | (simp; omega))]); exact cell_new (by simp) rfl
  have x5 : W0.cell? ⟨w.heap.size, 5, none⟩ = some (.int .i64 db) := by rw [hW0]; (repeat rw [World.cell?_alloc_lt _ _ _ (by first | (simp; done) | (simp; omega))]); exact cell_new (by simp) rfl
  have x6 : W0.cell? ⟨w.heap.size, 6, none⟩ = some (.int .i64 sb) := by rw [hW0]; (repeat rw [World.cell?_alloc_lt _ _ _ (by first | (simp; done) | (simp; omega))]); exact cell_new (by simp) rfl
  have y0 : W0.cell? ⟨w.heap.size + 1, 0, none⟩ = some (.int .i64 p) := by rw [hW0]; (repeat rw [World.cell?_alloc_lt _ _ _ (by first | (simp; done) | (simp; omega))]); exact cell_new (by simp) rfl
  have y1 : W0.cell? ⟨w.heap.size + 1, 1, none⟩ = some (.int .i64 la) := by rw [hW0]; (repeat rw [World.cell?_alloc_lt _ _ _ (by first | (simp; done) | (simp; omega))]); exact cell_new (by simp) rfl
  have y2 : W0.cell? ⟨w.heap.size + 1, 2, none⟩ = some (.int .i64 da) := by rw [hW0]; (repeat rw [World.cell?_alloc_lt _ _ _ (by first | (simp; done) | (simp; omega))]); exact cell_new (by simp) rfl
  have y3 : W0.cell? ⟨w.heap.size + 1, 3, none⟩ = some (.int .i64 sa) := by rw [hW0]; (repeat rw [World.cell?_alloc_lt _ _ _ (by first | (simp; done) | (simp; omega))]); exact cell_new (by simp) rfl
  have y4 : W0.cell? ⟨w.heap.size + 1, 4, none⟩ = some (.int .i64 lb) := by rw [hW0]; (repeat rw [World.cell?_alloc_lt _ _ _ (by first | (simp; done) | (simp; omega))]); exact cell_new (by simp) rfl
  have y5 : W0.cell? ⟨w.heap.size + 1, 5, none⟩ = some (.int .i64 db) := by rw [hW0]; (repeat rw [World.cell?_alloc_lt _ _ _ (by first | (simp; done) | (simp; omega))]); exact cell_new (by simp) rfl
  have y6 : W0.cell? ⟨w.heap.size + 1, 6, none⟩ = some (.int .i64 sb) := by rw [hW0]; (repeat rw [World.cell?_alloc_lt _ _ _ (by first | (simp; done) | (simp; omega))]); exact cell_new (by simp) rfl
  have HB := Lib.hid hB0
  clear hB0
  have E1 := Lib.hid (fun W => eqHead_c la da sa W)
  have E2 := Lib.hid (fun W => eqHead_c lb db sb W)
  go_enter Try.func37, Try.ntmps37
  go_wp2_with fail
  rw [← hW0]
  clear hW0
  refine (E1.out _).mono ?_
  rintro e w1 ⟨rfl, hb1'⟩
  have x0 : w1.cell? ⟨w.heap.size, 0, none⟩ = some (.int .i64 p) := cell_keep hb1' x0
  have x1 : w1.cell? ⟨w.heap.size, 1, none⟩ = some (.int .i64 la) := cell_keep hb1' x1
  have x2 : w1.cell? ⟨w.heap.size, 2, none⟩ = some (.int .i64 da) := cell_keep hb1' x2
  have x3 : w1.cell? ⟨w.heap.size, 3, none⟩ = some (.int .i64 sa) := cell_keep hb1' x3
  have x4 : w1.cell? ⟨w.heap.size, 4, none⟩ = some (.int .i64 lb) := cell_keep hb1' x4
  have x5 : w1.cell? ⟨w.heap.size, 5, none⟩ = some (.int .i64 db) := cell_keep hb1' x5
  have x6 : w1.cell? ⟨w.heap.size, 6, none⟩ = some (.int .i64 sb) := cell_keep hb1' x6
  have y0 : w1.cell? ⟨w.heap.size + 1, 0, none⟩ = some (.int .i64 p) := cell_keep hb1' y0
  have y1 : w1.cell? ⟨w.heap.size + 1, 1, none⟩ = some (.int .i64 la) := cell_keep hb1' y1
  have y2 : w1.cell? ⟨w.heap.size + 1, 2, none⟩ = some (.int .i64 da) := cell_keep hb1' y2
  have y3 : w1.cell? ⟨w.heap.size + 1, 3, none⟩ = some (.int .i64 sa) := cell_keep hb1' y3
  have y4 : w1.cell? ⟨w.heap.size + 1, 4, none⟩ = some (.int .i64 lb) := cell_keep hb1' y4
  have y5 : w1.cell? ⟨w.heap.size + 1, 5, none⟩ = some (.int .i64 db) := cell_keep hb1' y5
  have y6 : w1.cell? ⟨w.heap.size + 1, 6, none⟩ = some (.int .i64 sb) := cell_keep hb1' y6
  have HB := Lib.hid (HB.out.trans (hb1'.mono HB.out.size))
  clear hb1'
  go_wp2_with fail
  refine (E2.out _).mono ?_
  rintro e w2 ⟨rfl, hb2'⟩
  have HB := Lib.hid (HB.out.trans (hb2'.mono HB.out.size))
  clear hb2'
  go_wp2
  go_ret
  exact ⟨rfl, HB.out⟩
end Go.Proofs.Ytbjndbaljenlgaa
