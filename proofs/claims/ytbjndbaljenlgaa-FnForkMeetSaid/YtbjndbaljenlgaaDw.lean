/- The contract of DrawForkMeet. -/
import Derived.Test.YtbjndbaljenlgaaLFb
namespace Go.Proofs.Ytbjndbaljenlgaa
open Go.RowKit
set_option linter.unusedSimpArgs false
theorem RdS.take1 {S : Nat → Prop} {w : World} {a : Option Addr} {n cap m : Nat} {bs : List ByteArray} (h : RdS S 1 w (.slice a n cap) bs.length (encS bs)) (hl0 : bs.length = n) (hm : m ≤ n) : RdS S 1 w (.slice a m cap) (bs.take m).length (encS (bs.take m)) := by
  obtain ⟨h0, hs, a', cap', e, h1, h2, h3⟩ := h
  simp only [Value.slice.injEq] at e
  obtain ⟨rfl, -, rfl⟩ := e
  have hl : (bs.take m).length = m := by rw [List.length_take]; omega
  refine ⟨by simp [encS], ?_, a, cap, by rw [hl], by rw [hl]; omega, h2, fun hn => ?_⟩
  · rcases hs with e | ⟨ad, n', c', e⟩
    · simp only [Value.slice.injEq] at e
      obtain ⟨rfl, e2, rfl⟩ := e
      obtain rfl : m = 0 := by omega
      exact .inl rfl
    · simp only [Value.slice.injEq] at e
      obtain ⟨rfl, -, -⟩ := e
      exact .inr ⟨_, _, _, rfl⟩
  · rw [hl] at hn
    obtain ⟨b, off, e, hc⟩ := h3 (by omega)
    refine ⟨b, off, e, fun j u hj => hc j u ?_⟩
    have : encS (bs.take m) = (encS bs).take m := by simp [encS, List.map_take]
    rw [this, List.getElem?_take] at hj
    split at hj
    · exact hj
    · cases hj
/-- what stands through the draw: two zero feeds for the results, the blocks, the other's blocks -/
structure DG (w W : World) (r B : Nat) (v0 vx : Value) (bs xs : List ByteArray) (P : Nat) : Prop where
  rd : Reader B W r P
  be : Below w.heap.size w W
  hr : w.heap.size + 2 ≤ r
  z2 : Zc W w.heap.size
  z3 : Zc W (w.heap.size + 1)
  rv : RdS (fun k => k ≠ r) 1 W v0 bs.length (encS bs)
  rx : RdS (fun k => k ≠ r) 1 W vx xs.length (encS xs)
theorem DG.pick {w W W' : World} {r B P P' : Nat} {v0 vx : Value} {bs xs : List ByteArray} (d : DG w W r B v0 vx bs xs P) (hR : Reader B W' r P') (hg : W.grownBy W' (some r)) : DG w W' r B v0 vx bs xs P' := by
  have h1 := d.hr
  exact ⟨hR, below_r d.be hg (by omega), h1, d.z2.moved hg (by simp; omega), d.z3.moved hg (by simp; omega), d.rv.chg (Chg.of_grown hg) (fun k hk e => hk (by cases e; rfl)), d.rx.chg (Chg.of_grown hg) (fun k hk e => hk (by cases e; rfl))⟩
theorem DG.below {w W W' : World} {r B P : Nat} {v0 vx : Value} {bs xs : List ByteArray} (d : DG w W r B v0 vx bs xs P) (hb : Below W.heap.size W W') : DG w W' r B v0 vx bs xs P :=
  ⟨d.rd.below hb, d.be.trans (hb.mono d.be.size), d.hr, d.z2.below hb, d.z3.below hb, d.rv.below hb, d.rx.below hb⟩
theorem DG.cut {w W : World} {r B P : Nat} {v0 : Value} {a : Option Addr} {n cap m : Nat} {bs xs : List ByteArray} (d : DG w W r B v0 (.slice a n cap) bs xs P) (hn : xs.length = n) (hm : m ≤ n) : DG w W r B v0 (.slice a m cap) bs (xs.take m) P :=
  ⟨d.rd, d.be, d.hr, d.z2, d.z3, d.rv, d.rx.take1 hn hm⟩
theorem take_sizes {bs xs : List ByteArray} (h : bs.length ≤ 16 ∧ (∀ x ∈ bs, x.size ≤ 8) ∧ xs.length ≤ 16 ∧ (∀ x ∈ xs, x.size ≤ 8)) (k : Nat) : bs.length ≤ 16 ∧ (∀ x ∈ bs, x.size ≤ 8) ∧ (xs.take k).length ≤ 16 ∧ (∀ x ∈ xs.take k, x.size ≤ 8) :=
  ⟨h.1, h.2.1, by rw [List.length_take]; omega, fun x hx => h.2.2.2 x (List.mem_of_mem_take hx)⟩
def LenIs (xs : List ByteArray) (n : Nat) : Prop := xs.length = n
/-- two drawn feeds -/
def FkP (w : World) (e : Ending) (w' : World) : Prop :=
  ∃ (f g : FeedV) (vb vh ub uh : Value), e = .returned (.tuple #[.agg #[.int .i64 f.pub, .int .i64 f.len, .int .i64 f.dig, .int .i64 f.sign, vb, vh], .agg #[.int .i64 g.pub, .int .i64 g.len, .int .i64 g.dig, .int .i64 g.sign, ub, uh]]) ∧
    RdS (fun k => w.heap.size ≤ k) 1 w' vb f.bs.length (encS f.bs) ∧ RdS (fun k => w.heap.size ≤ k) 1 w' vh f.hv.length (encB f.hv) ∧ RdS (fun k => w.heap.size ≤ k) 1 w' ub g.bs.length (encS g.bs) ∧ RdS (fun k => w.heap.size ≤ k) 1 w' uh g.hv.length (encB g.hv) ∧
    (f.len = 0 → f.sign = 0) ∧ (g.len = 0 → g.sign = 0) ∧ Below w.heap.size w w'
theorem fkp_of {w W : World} (f g : FeedV) {vb vh ub uh v0 v1 v2 v3 v4 v5 u0 u1 u2 u3 u4 u5 : Value} {b1 : Nat} (hb1 : w.heap.size + 2 ≤ b1) (k1 : RdS (fun k => b1 ≤ k) 1 W vb f.bs.length (encS f.bs)) (k2 : RdS (fun k => b1 ≤ k) 1 W vh f.hv.length (encB f.hv))
    (k3 : RdS (fun k => b1 ≤ k) 1 W ub g.bs.length (encS g.bs)) (k4 : RdS (fun k => b1 ≤ k) 1 W uh g.hv.length (encB g.hv)) (z1 : f.len = 0 → f.sign = 0) (z2 : g.len = 0 → g.sign = 0) (hb : Below w.heap.size w W) :
    FkP w (.returned (.tuple #[.agg #[.int .i64 f.pub, .int .i64 f.len, .int .i64 f.dig, .int .i64 f.sign, vb, vh], .agg #[.int .i64 g.pub, .int .i64 g.len, .int .i64 g.dig, .int .i64 g.sign, ub, uh]])) ((((((((((((W.setCell ⟨w.heap.size, 0, none⟩ v0).setCell ⟨w.heap.size, 1, none⟩ v1).setCell ⟨w.heap.size, 2, none⟩ v2).setCell ⟨w.heap.size, 3, none⟩ v3).setCell ⟨w.heap.size, 4, none⟩ v4).setCell ⟨w.heap.size, 5, none⟩ v5).setCell ⟨w.heap.size + 1, 0, none⟩ u0).setCell ⟨w.heap.size + 1, 1, none⟩ u1).setCell ⟨w.heap.size + 1, 2, none⟩ u2).setCell ⟨w.heap.size + 1, 3, none⟩ u3).setCell ⟨w.heap.size + 1, 4, none⟩ u4).setCell ⟨w.heap.size + 1, 5, none⟩ u5) := by
  have d1 : ¬ b1 ≤ w.heap.size := by omega
  have d2 : ¬ b1 ≤ w.heap.size + 1 := by omega
  have s : ∀ {w' : World} (k : Nat), k < w'.heap.size → b1 ≤ k → w.heap.size ≤ k := fun k _ hk => by omega
  exact ⟨f, g, vb, vh, ub, uh, rfl, (sets6_rd (sets6_rd k1 d1) d2).sub s, (sets6_rd (sets6_rd k2 d1) d2).sub s, (sets6_rd (sets6_rd k3 d1) d2).sub s, (sets6_rd (sets6_rd k4 d1) d2).sub s, z1, z2, sets6_below (sets6_below hb (Nat.le_refl _)) (Nat.le_succ _)⟩
set_option maxRecDepth 100000 in
set_option maxHeartbeats 6400000 in
theorem drawForkMeet_c (v : Value) (n : Nat) (w : World) (h : RdB w v n) : Calls Try.prog 41 #[v] w (FkP w) := by
  obtain ⟨W0, hW0⟩ : ∃ W0, W0 = (w.alloc (.cells #[.int .i64 0, .int .i64 0, .int .i64 0, .int .i64 0, .slice none 0 0, .slice none 0 0] 39)).alloc (.cells #[.int .i64 0, .int .i64 0, .int .i64 0, .int .i64 0, .slice none 0 0, .slice none 0 0] 39) := ⟨_, rfl⟩
  have hB0 : Below w.heap.size w W0 := by rw [hW0]; (repeat' (first | exact Below.refl _ _ | assumption | refine Below.drew ?_ | refine below_drewN ?_ _ | refine Below.alloc ?_ (by omega) _ | refine Below.alloc ?_ (by simp; omega) _ | refine Below.alloc ?_ (by simp) _ | refine Below.setCell ?_ (by omega) _ | refine Below.setCell ?_ (by simp; omega) _ | refine Below.setCell ?_ (by simp) _))
  have hS0 : W0.heap.size = w.heap.size + 2 := by rw [hW0]; simp
  have y0 : Zc W0 w.heap.size := by rw [hW0]; exact (show Zc (w.alloc (.cells #[.int .i64 0, .int .i64 0, .int .i64 0, .int .i64 0, .slice none 0 0, .slice none 0 0] 39)) w.heap.size from ⟨cell_new rfl rfl, cell_new rfl rfl, cell_new rfl rfl, cell_new rfl rfl, cell_new rfl rfl, cell_new rfl rfl, fun o => frozen_new rfl⟩).below (by (repeat' (first | exact Below.refl _ _ | assumption | refine Below.drew ?_ | refine below_drewN ?_ _ | refine Below.alloc ?_ (by omega) _ | refine Below.alloc ?_ (by simp; omega) _ | refine Below.alloc ?_ (by simp) _ | refine Below.setCell ?_ (by omega) _ | refine Below.setCell ?_ (by simp; omega) _ | refine Below.setCell ?_ (by simp) _)))
  have z0 : Zc W0 (w.heap.size + 1) := by rw [hW0]; exact ⟨cell_new (by simp) rfl, cell_new (by simp) rfl, cell_new (by simp) rfl, cell_new (by simp) rfl, cell_new (by simp) rfl, cell_new (by simp) rfl, fun o => frozen_new (by simp)⟩
  have h0 := h.below hB0
  go_enter Try.func41, Try.ntmps41
  go_wp2_with fail
  rw [← hW0]
  clear hW0
  refine (l6Open_c _ n _ h0).mono ?_
  rintro e w1 ⟨r, rfl, hr, hR1, hb1⟩
  have HR2 := Lib.hid (show w.heap.size + 2 ≤ r by omega)
  have ne1 : some w.heap.size ≠ some r := by simp; omega
  have ne2 : some (w.heap.size + 1) ≠ some r := by simp; omega
  have y1 := y0.below hb1
  have z1 := z0.below hb1
  have HB1 := hB0.trans (hb1.mono hB0.size)
  clear h h0 z0 y0
  go_wp2_with fail
  refine (good_c _ r _ _ hR1 (by omega)).mono ?_
  rintro e w2 ⟨s, rfl, -, -, hR2, hg2⟩
  have y2 := y1.moved hg2 ne1
  have z2 := z1.moved hg2 ne2
  have HB2 := below_r HB1 hg2 (by omega)
  clear z1 y1 HB1 hR1 hg2
  go_wp2_with fail
  refine (blocks_d _ r _ _ hR2 (by omega)).mono ?_
  rintro e w3 ⟨v3, bs, rfl, o3, hbs, hs8, hR3, hg3⟩
  have y3 := y2.moved hg3 ne1
  have z3 := z2.moved hg3 ne2
  have HB3 := below_r HB2 hg3 (by omega)
  obtain ⟨a3, k3, rfl⟩ : ∃ a c, v3 = .slice a bs.length c := own_slice o3
  have hrw : r < w3.heap.size := by have := hR3.1; have := hR3.2.1; omega
  have HV3 := (RdS.of_own o3).sub (S' := fun k => k ≠ r ∧ k < w3.heap.size) (fun k hk2 hk => by have := (own_block o3 k hk).1; have := hR2.1; have := hR2.2.1; exact ⟨by omega, hk2⟩)
  obtain ⟨W4, hW4⟩ : ∃ W4, W4 = w3.alloc (.cells #[] 9) := ⟨_, rfl⟩
  have hb4 : Below w3.heap.size w3 W4 := by rw [hW4]; (repeat' (first | exact Below.refl _ _ | assumption | refine Below.drew ?_ | refine below_drewN ?_ _ | refine Below.alloc ?_ (by omega) _ | refine Below.alloc ?_ (by simp; omega) _ | refine Below.alloc ?_ (by simp) _ | refine Below.setCell ?_ (by omega) _ | refine Below.setCell ?_ (by simp; omega) _ | refine Below.setCell ?_ (by simp) _))
  have hown0 : W4.ownsRow w3.heap.size 9 1 (.slice (some ⟨w3.heap.size, 0, none⟩) 0 0) 0 [] := by rw [hW4]; exact own_empty w3 w3.heap.size 9 1 (Nat.le_refl _)
  have HV4 := HV3.below hb4
  have D3 := Lib.hid (And.intro HB3 (And.intro y3 (And.intro z3 (And.intro hR3 HV3))))
  have HBS := Lib.hid (And.intro hbs hs8)
  have HZ4 := Lib.hid hb4.size
  have EB := Lib.hid (encS_one bs)
  have HRW := Lib.hid hrw
  have HB13 := Lib.hid (show w1.heap.size ≤ w3.heap.size from hR3.2.1)
  clear y2 z2 HB2 hR2 hg3 o3 hR3 HB3 y3 z3 HV3 hb1 hB0 hr hS0 hrw ne1 ne2 hs8
  go_wp2_with (at_builtin; rw [← hW4]; refine wpList_appRow _ rfl _ _ 36 rfl w3.heap.size 9 Try.underlying36 (.string ByteArray.empty) 16 info_string rfl (by omega) _ 0 [] rfl hown0 _ bs.length (encS bs) rfl HV4 EB.out (by omega) (by omega) HZ4.out ?_)
  intro v5 w5 ho5 hg5
  have ho5 : w5.ownsRow w3.heap.size 9 1 v5 bs.length (encS bs) := by simpa using ho5
  have hg5 : W4.grownBy w5 (some w3.heap.size) := by rw [hW4]; exact hg5
  clear hW4
  obtain ⟨ax, kx, rfl⟩ : ∃ a c, v5 = .slice a bs.length c := own_slice ho5
  have hg35 : w3.grownBy w5 (some w3.heap.size) := grown_trans (below_grown hb4 _) hg5
  have DV : Hid (RdS (fun k => k ≠ r ∧ k < w3.heap.size) 1 w5 (.slice a3 bs.length k3) bs.length (encS bs)) := Lib.hid (D3.out.2.2.2.2.chg (Chg.of_grown hg35) (fun k hk e => by cases e; exact absurd hk.2 (Nat.lt_irrefl _)))
  have D : Hid (DG w w5 r w1.heap.size (.slice a3 bs.length k3) (.slice ax bs.length kx) bs bs (0 + 2 + 300)) := Lib.hid
    ⟨D3.out.2.2.2.1.kept hg35 (fun k hk => by cases hk; exact D3.out.2.2.2.1.2.1), D3.out.1.grown hg35 D3.out.1.size (fun k hk => by cases hk; exact D3.out.1.size), HR2.out,
      D3.out.2.1.moved hg35 (by have := HR2.out; have := HRW.out; simp; omega), D3.out.2.2.1.moved hg35 (by have := HR2.out; have := HRW.out; simp; omega), DV.out.sub (fun k _ hk => hk.1), (RdS.of_own ho5).sub (fun k _ hk => by have := (own_block ho5 k hk).1; have := HRW.out; show k ≠ r; omega)⟩
  have OX := Lib.hid ho5
  clear ho5 hg5 hg35 hb4 hown0 HV4 D3
  have hkx : bs.length ≤ kx ∧ kx ≤ maxLen := by obtain ⟨a', c', e, h1, h2⟩ := D.out.rx.shape; simp only [Value.slice.injEq, true_and] at e; obtain ⟨rfl, rfl⟩ := e; exact ⟨h1, h2⟩
  unfold maxLen at hkx
  obtain ⟨hkx1, hkx2⟩ := hkx
  by_cases h0 : bs.length = 0
  · have h0' : ((bs.length : Int)) = 0 := by omega
    have HS := Lib.hid (And.intro HBS.out.1 (And.intro HBS.out.2 (And.intro HBS.out.1 HBS.out.2)))
    have HXL := Lib.hid (show LenIs bs bs.length from rfl)
    go_upto_region 7 with (fail)
    clear h0' h0
    go_wp2_with fail
    refine (pick_c _ r _ 4 _ D.out.rd (by omega)).mono ?_
    rintro e w20 ⟨m2, rfl, hm20, -, hR20, hg20⟩
    have D := Lib.hid (D.out.pick hR20 hg20)
    clear hR20 hg20 hm20
    by_cases c2 : m2 = 0
    · subst c2
      go_wp2_with fail
      refine (pick_c _ r _ ((bs.length : Int) + 1) _ D.out.rd (by omega)).mono ?_
      rintro e w21 ⟨q2, rfl, hq20, hq21, hR21, hg21⟩
      have hq21 := hq21 (by omega)
      obtain ⟨k2, rfl⟩ := Int.eq_ofNat_of_zero_le hq20
      have hk2 : k2 ≤ bs.length := by omega
      have D := Lib.hid ((D.out.pick hR21 hg21).cut HXL.out hk2)
      have HS := Lib.hid (take_sizes HS.out k2)
      have HK2 := Lib.hid (And.intro hq20 hq21)
      clear hR21 hg21
      go_upto_region 9 with (fail)
      have HRB := Lib.hid (Nat.lt_of_lt_of_le D.out.rd.1 D.out.rd.2.1)
      go_wp2_with fail
      refine (reader_d _ r _ s _ bs _ D.out.rd (by omega) D.out.rv HS.out.1 HS.out.2.1).mono ?_
      rintro e w8 ⟨f, vb, vh, rfl, k1, k2, k3', k4, k5, hR8, hg8⟩
      obtain ⟨a5, c5, rfl, -, -⟩ := k1.shape
      obtain ⟨a6, c6, rfl, -, -⟩ := k2.shape
      have D := Lib.hid (D.out.pick hR8 hg8)
      have HRW8 := Lib.hid (Nat.lt_of_lt_of_le hR8.1 hR8.2.1)
      have KL := Lib.hid (And.intro k3' (And.intro k4 k5))
      have KR := Lib.hid (And.intro k1 k2)
      clear hR8 hg8 k1 k2 k3' k4 k5
      obtain ⟨W9, hW9⟩ : ∃ W9, W9 = w8.alloc (.cells #[.int .i64 f.pub, .int .i64 f.len, .int .i64 f.dig, .int .i64 f.sign, .slice a5 f.bs.length c5, .slice a6 f.hv.length c6] 39) := ⟨_, rfl⟩
      have hb9 : Below w8.heap.size w8 W9 := by rw [hW9]; (repeat' (first | exact Below.refl _ _ | assumption | refine Below.drew ?_ | refine below_drewN ?_ _ | refine Below.alloc ?_ (by omega) _ | refine Below.alloc ?_ (by simp; omega) _ | refine Below.alloc ?_ (by simp) _ | refine Below.setCell ?_ (by omega) _ | refine Below.setCell ?_ (by simp; omega) _ | refine Below.setCell ?_ (by simp) _))
      have D := Lib.hid (D.out.below hb9)
      have KR := Lib.hid (And.intro (KR.out.1.below hb9) (KR.out.2.below hb9))
      have hlt9 : w8.heap.size < W9.heap.size := by rw [hW9]; simp
      have x0 : W9.cell? ⟨w8.heap.size, 0, none⟩ = some (.int .i64 f.pub) := by rw [hW9]; exact cell_new rfl rfl
      have x1 : W9.cell? ⟨w8.heap.size, 1, none⟩ = some (.int .i64 f.len) := by rw [hW9]; exact cell_new rfl rfl
      have x2 : W9.cell? ⟨w8.heap.size, 2, none⟩ = some (.int .i64 f.dig) := by rw [hW9]; exact cell_new rfl rfl
      have x3 : W9.cell? ⟨w8.heap.size, 3, none⟩ = some (.int .i64 f.sign) := by rw [hW9]; exact cell_new rfl rfl
      have x4 : W9.cell? ⟨w8.heap.size, 4, none⟩ = some (.slice a5 f.bs.length c5) := by rw [hW9]; exact cell_new rfl rfl
      have x5 : W9.cell? ⟨w8.heap.size, 5, none⟩ = some (.slice a6 f.hv.length c6) := by rw [hW9]; exact cell_new rfl rfl
      clear hb9
      go_upto_region 10 with (fail)
      rw [← hW9]
      clear hW9
      go_wp2_with fail
      refine (pick_c _ r _ 10 _ D.out.rd (by omega)).mono ?_
      rintro e w10 ⟨m3, rfl, hm30, -, hR10, hg10⟩
      have D := Lib.hid (D.out.pick hR10 hg10)
      have hne : some w8.heap.size ≠ some r := by have := HRW8.out; simp; omega
      have KR := Lib.hid (And.intro (KR.out.1.chg (Chg.of_grown hg10) (fun k hk e => by have h1 := HRB.out; have h2 : _ ≤ k := hk; cases e; omega)) (KR.out.2.chg (Chg.of_grown hg10) (fun k hk e => by have h1 := HRB.out; have h2 : _ ≤ k := hk; cases e; omega)))
      have x0 := grown_cell hg10 x0 hne
      have x1 := grown_cell hg10 x1 hne
      have x2 := grown_cell hg10 x2 hne
      have x3 := grown_cell hg10 x3 hne
      have x4 := grown_cell hg10 x4 hne
      have x5 := grown_cell hg10 x5 hne
      clear hR10 hg10 hm30
      by_cases c3 : m3 = 0
      · subst c3
        go_wp2_with fail
        refine (good_c _ r _ _ D.out.rd (by omega)).mono ?_
        rintro e w11 ⟨s2, rfl, -, -, hR11, hg11⟩
        have D := Lib.hid (D.out.pick hR11 hg11)
        have KR := Lib.hid (And.intro (KR.out.1.chg (Chg.of_grown hg11) (fun k hk e => by have h1 := HRB.out; have h2 : _ ≤ k := hk; cases e; omega)) (KR.out.2.chg (Chg.of_grown hg11) (fun k hk e => by have h1 := HRB.out; have h2 : _ ≤ k := hk; cases e; omega)))
        have x0 := grown_cell hg11 x0 hne
        have x1 := grown_cell hg11 x1 hne
        have x2 := grown_cell hg11 x2 hne
        have x3 := grown_cell hg11 x3 hne
        have x4 := grown_cell hg11 x4 hne
        have x5 := grown_cell hg11 x5 hne
        clear hR11 hg11
        have HSZ := Lib.hid (And.intro D.out.hr (Nat.lt_of_lt_of_le D.out.rd.1 D.out.rd.2.1))
        go_wp2_with fail
        refine (spoilt_d _ r _ f _ _ _ D.out.rd (by omega) KR.out.1 KR.out.2 KL.out.1 KL.out.2.1 KL.out.2.2).mono ?_
        rintro e w12 ⟨f2, vb, vh, rfl, k1, k2, -, -, k5, hR12, hg12⟩
        obtain ⟨a7, c7, rfl, -, -⟩ := k1.shape
        obtain ⟨a8, c8, rfl, -, -⟩ := k2.shape
        have HSA := Lib.hid hg12.size
        have D := Lib.hid (D.out.pick hR12 hg12)
        have KA := Lib.hid (And.intro k1 k2)
        have KZ := Lib.hid k5
        clear hR12 hg12 k1 k2 k5 KR KL x0 x1 x2 x3 x4 x5
        go_wp2_with fail
        refine (reader_d _ r _ s2 _ _ _ D.out.rd (by omega) D.out.rx HS.out.2.2.1 HS.out.2.2.2).mono ?_
        rintro e w13 ⟨g, vb, vh, rfl, k1, k2, k3', k4, k5, hR13, hg13⟩
        obtain ⟨a9, c9, rfl, -, -⟩ := k1.shape
        obtain ⟨b6, d6, rfl, -, -⟩ := k2.shape
        have D := Lib.hid (D.out.pick hR13 hg13)
        have KA := Lib.hid (And.intro (KA.out.1.chg (Chg.of_grown hg13) (fun k hk e => by have h1 := HSZ.out; have h2 : _ ≤ k := hk; cases e; omega)) (KA.out.2.chg (Chg.of_grown hg13) (fun k hk e => by have h1 := HSZ.out; have h2 : _ ≤ k := hk; cases e; omega)))
        have KG := Lib.hid (And.intro k1 (And.intro k2 (And.intro k3' (And.intro k4 k5))))
        have HSB := Lib.hid hg13.size
        clear hR13 hg13 k1 k2 k3' k4 k5 hne
        go_wp2_with fail
        refine (spoilt_d _ r _ g _ _ _ D.out.rd (by omega) KG.out.1 KG.out.2.1 KG.out.2.2.1 KG.out.2.2.2.1 KG.out.2.2.2.2).mono ?_
        rintro e w14 ⟨g2, vb, vh, rfl, k1, k2, -, -, k5, hR14, hg14⟩
        obtain ⟨b7, d7, rfl, -, -⟩ := k1.shape
        obtain ⟨b8, d8, rfl, -, -⟩ := k2.shape
        have KA := Lib.hid (And.intro (KA.out.1.chg (Chg.of_grown hg14) (fun k hk e => by have h1 := HSZ.out; have h2 : _ ≤ k := hk; cases e; omega)) (KA.out.2.chg (Chg.of_grown hg14) (fun k hk e => by have h1 := HSZ.out; have h2 : _ ≤ k := hk; cases e; omega)))
        have D := Lib.hid (D.out.pick hR14 hg14)
        have KB := Lib.hid (And.intro k1 (And.intro k2 k5))
        have hs12 := Nat.le_trans HSA.out HSB.out
        clear hR14 hg14 k1 k2 k5 KG HS
        have r0 := D.out.z2.r0
        have r1 := D.out.z2.r1
        have r2 := D.out.z2.r2
        have r3 := D.out.z2.r3
        have r4 := D.out.z2.r4
        have r5 := D.out.z2.r5
        have fr := D.out.z2.fr
        have q0 := D.out.z3.r0
        have q1 := D.out.z3.r1
        have q2 := D.out.z3.r2
        have q3 := D.out.z3.r3
        have q4 := D.out.z3.r4
        have q5 := D.out.z3.r5
        have fq := D.out.z3.fr
        go_wp2
        refine bodyPost_ret (v := .tuple #[.agg #[.int .i64 f2.pub, .int .i64 f2.len, .int .i64 f2.dig, .int .i64 f2.sign, .slice a7 f2.bs.length c7, .slice a8 f2.hv.length c8], .agg #[.int .i64 g2.pub, .int .i64 g2.len, .int .i64 g2.dig, .int .i64 g2.sign, .slice b7 g2.bs.length d7, .slice b8 g2.hv.length d8]]) (by simp [results, Try.results41, go_sem, r0, r1, r2, r3, r4, r5, q0, q1, q2, q3, q4, q5]) rfl ?_
        exact fkp_of f2 g2 (by have := HSZ.out; omega) KA.out.1 KA.out.2 (KB.out.1.sub (fun k _ hk => Nat.le_trans hs12 hk)) (KB.out.2.1.sub (fun k _ hk => Nat.le_trans hs12 hk)) KZ.out KB.out.2.2 D.out.be
      · have d3 : (m3 == 0) = false := by rw [beq_eq_false_iff_ne]; exact c3
        have HSZ := Lib.hid (And.intro D.out.hr (Nat.lt_of_lt_of_le D.out.rd.1 D.out.rd.2.1))
        go_wp2_with fail
        refine (spoilt_d _ r _ f _ _ _ D.out.rd (by omega) KR.out.1 KR.out.2 KL.out.1 KL.out.2.1 KL.out.2.2).mono ?_
        rintro e w12 ⟨f2, vb, vh, rfl, k1, k2, -, -, k5, hR12, hg12⟩
        obtain ⟨a7, c7, rfl, -, -⟩ := k1.shape
        obtain ⟨a8, c8, rfl, -, -⟩ := k2.shape
        have HSA := Lib.hid hg12.size
        have D := Lib.hid (D.out.pick hR12 hg12)
        have KA := Lib.hid (And.intro k1 k2)
        have KZ := Lib.hid k5
        clear hR12 hg12 k1 k2 k5 KR KL x0 x1 x2 x3 x4 x5
        go_wp2_with fail
        refine (reader_d _ r _ s _ _ _ D.out.rd (by omega) D.out.rx HS.out.2.2.1 HS.out.2.2.2).mono ?_
        rintro e w13 ⟨g, vb, vh, rfl, k1, k2, k3', k4, k5, hR13, hg13⟩
        obtain ⟨a9, c9, rfl, -, -⟩ := k1.shape
        obtain ⟨b6, d6, rfl, -, -⟩ := k2.shape
        have D := Lib.hid (D.out.pick hR13 hg13)
        have KA := Lib.hid (And.intro (KA.out.1.chg (Chg.of_grown hg13) (fun k hk e => by have h1 := HSZ.out; have h2 : _ ≤ k := hk; cases e; omega)) (KA.out.2.chg (Chg.of_grown hg13) (fun k hk e => by have h1 := HSZ.out; have h2 : _ ≤ k := hk; cases e; omega)))
        have KG := Lib.hid (And.intro k1 (And.intro k2 (And.intro k3' (And.intro k4 k5))))
        have HSB := Lib.hid hg13.size
        clear hR13 hg13 k1 k2 k3' k4 k5 hne
        go_wp2_with fail
        refine (spoilt_d _ r _ g _ _ _ D.out.rd (by omega) KG.out.1 KG.out.2.1 KG.out.2.2.1 KG.out.2.2.2.1 KG.out.2.2.2.2).mono ?_
        rintro e w14 ⟨g2, vb, vh, rfl, k1, k2, -, -, k5, hR14, hg14⟩
        obtain ⟨b7, d7, rfl, -, -⟩ := k1.shape
        obtain ⟨b8, d8, rfl, -, -⟩ := k2.shape
        have KA := Lib.hid (And.intro (KA.out.1.chg (Chg.of_grown hg14) (fun k hk e => by have h1 := HSZ.out; have h2 : _ ≤ k := hk; cases e; omega)) (KA.out.2.chg (Chg.of_grown hg14) (fun k hk e => by have h1 := HSZ.out; have h2 : _ ≤ k := hk; cases e; omega)))
        have D := Lib.hid (D.out.pick hR14 hg14)
        have KB := Lib.hid (And.intro k1 (And.intro k2 k5))
        have hs12 := Nat.le_trans HSA.out HSB.out
        clear hR14 hg14 k1 k2 k5 KG HS
        have r0 := D.out.z2.r0
        have r1 := D.out.z2.r1
        have r2 := D.out.z2.r2
        have r3 := D.out.z2.r3
        have r4 := D.out.z2.r4
        have r5 := D.out.z2.r5
        have fr := D.out.z2.fr
        have q0 := D.out.z3.r0
        have q1 := D.out.z3.r1
        have q2 := D.out.z3.r2
        have q3 := D.out.z3.r3
        have q4 := D.out.z3.r4
        have q5 := D.out.z3.r5
        have fq := D.out.z3.fr
        go_wp2
        refine bodyPost_ret (v := .tuple #[.agg #[.int .i64 f2.pub, .int .i64 f2.len, .int .i64 f2.dig, .int .i64 f2.sign, .slice a7 f2.bs.length c7, .slice a8 f2.hv.length c8], .agg #[.int .i64 g2.pub, .int .i64 g2.len, .int .i64 g2.dig, .int .i64 g2.sign, .slice b7 g2.bs.length d7, .slice b8 g2.hv.length d8]]) (by simp [results, Try.results41, go_sem, r0, r1, r2, r3, r4, r5, q0, q1, q2, q3, q4, q5]) rfl ?_
        exact fkp_of f2 g2 (by have := HSZ.out; omega) KA.out.1 KA.out.2 (KB.out.1.sub (fun k _ hk => Nat.le_trans hs12 hk)) (KB.out.2.1.sub (fun k _ hk => Nat.le_trans hs12 hk)) KZ.out KB.out.2.2 D.out.be
    · have d2 : (m2 == 0) = false := by rw [beq_eq_false_iff_ne]; exact c2
      go_upto_region 9 with (fail)
      have HRB := Lib.hid (Nat.lt_of_lt_of_le D.out.rd.1 D.out.rd.2.1)
      go_wp2_with fail
      refine (reader_d _ r _ s _ bs _ D.out.rd (by omega) D.out.rv HS.out.1 HS.out.2.1).mono ?_
      rintro e w8 ⟨f, vb, vh, rfl, k1, k2, k3', k4, k5, hR8, hg8⟩
      obtain ⟨a5, c5, rfl, -, -⟩ := k1.shape
      obtain ⟨a6, c6, rfl, -, -⟩ := k2.shape
      have D := Lib.hid (D.out.pick hR8 hg8)
      have HRW8 := Lib.hid (Nat.lt_of_lt_of_le hR8.1 hR8.2.1)
      have KL := Lib.hid (And.intro k3' (And.intro k4 k5))
      have KR := Lib.hid (And.intro k1 k2)
      clear hR8 hg8 k1 k2 k3' k4 k5
      obtain ⟨W9, hW9⟩ : ∃ W9, W9 = w8.alloc (.cells #[.int .i64 f.pub, .int .i64 f.len, .int .i64 f.dig, .int .i64 f.sign, .slice a5 f.bs.length c5, .slice a6 f.hv.length c6] 39) := ⟨_, rfl⟩
      have hb9 : Below w8.heap.size w8 W9 := by rw [hW9]; (repeat' (first | exact Below.refl _ _ | assumption | refine Below.drew ?_ | refine below_drewN ?_ _ | refine Below.alloc ?_ (by omega) _ | refine Below.alloc ?_ (by simp; omega) _ | refine Below.alloc ?_ (by simp) _ | refine Below.setCell ?_ (by omega) _ | refine Below.setCell ?_ (by simp; omega) _ | refine Below.setCell ?_ (by simp) _))
      have D := Lib.hid (D.out.below hb9)
      have KR := Lib.hid (And.intro (KR.out.1.below hb9) (KR.out.2.below hb9))
      have hlt9 : w8.heap.size < W9.heap.size := by rw [hW9]; simp
      have x0 : W9.cell? ⟨w8.heap.size, 0, none⟩ = some (.int .i64 f.pub) := by rw [hW9]; exact cell_new rfl rfl
      have x1 : W9.cell? ⟨w8.heap.size, 1, none⟩ = some (.int .i64 f.len) := by rw [hW9]; exact cell_new rfl rfl
      have x2 : W9.cell? ⟨w8.heap.size, 2, none⟩ = some (.int .i64 f.dig) := by rw [hW9]; exact cell_new rfl rfl
      have x3 : W9.cell? ⟨w8.heap.size, 3, none⟩ = some (.int .i64 f.sign) := by rw [hW9]; exact cell_new rfl rfl
      have x4 : W9.cell? ⟨w8.heap.size, 4, none⟩ = some (.slice a5 f.bs.length c5) := by rw [hW9]; exact cell_new rfl rfl
      have x5 : W9.cell? ⟨w8.heap.size, 5, none⟩ = some (.slice a6 f.hv.length c6) := by rw [hW9]; exact cell_new rfl rfl
      clear hb9
      go_upto_region 10 with (fail)
      rw [← hW9]
      clear hW9
      go_wp2_with fail
      refine (pick_c _ r _ 10 _ D.out.rd (by omega)).mono ?_
      rintro e w10 ⟨m3, rfl, hm30, -, hR10, hg10⟩
      have D := Lib.hid (D.out.pick hR10 hg10)
      have hne : some w8.heap.size ≠ some r := by have := HRW8.out; simp; omega
      have KR := Lib.hid (And.intro (KR.out.1.chg (Chg.of_grown hg10) (fun k hk e => by have h1 := HRB.out; have h2 : _ ≤ k := hk; cases e; omega)) (KR.out.2.chg (Chg.of_grown hg10) (fun k hk e => by have h1 := HRB.out; have h2 : _ ≤ k := hk; cases e; omega)))
      have x0 := grown_cell hg10 x0 hne
      have x1 := grown_cell hg10 x1 hne
      have x2 := grown_cell hg10 x2 hne
      have x3 := grown_cell hg10 x3 hne
      have x4 := grown_cell hg10 x4 hne
      have x5 := grown_cell hg10 x5 hne
      clear hR10 hg10 hm30
      by_cases c3 : m3 = 0
      · subst c3
        go_wp2_with fail
        refine (good_c _ r _ _ D.out.rd (by omega)).mono ?_
        rintro e w11 ⟨s2, rfl, -, -, hR11, hg11⟩
        have D := Lib.hid (D.out.pick hR11 hg11)
        have KR := Lib.hid (And.intro (KR.out.1.chg (Chg.of_grown hg11) (fun k hk e => by have h1 := HRB.out; have h2 : _ ≤ k := hk; cases e; omega)) (KR.out.2.chg (Chg.of_grown hg11) (fun k hk e => by have h1 := HRB.out; have h2 : _ ≤ k := hk; cases e; omega)))
        have x0 := grown_cell hg11 x0 hne
        have x1 := grown_cell hg11 x1 hne
        have x2 := grown_cell hg11 x2 hne
        have x3 := grown_cell hg11 x3 hne
        have x4 := grown_cell hg11 x4 hne
        have x5 := grown_cell hg11 x5 hne
        clear hR11 hg11
        have HSZ := Lib.hid (And.intro D.out.hr (Nat.lt_of_lt_of_le D.out.rd.1 D.out.rd.2.1))
        go_wp2_with fail
        refine (spoilt_d _ r _ f _ _ _ D.out.rd (by omega) KR.out.1 KR.out.2 KL.out.1 KL.out.2.1 KL.out.2.2).mono ?_
        rintro e w12 ⟨f2, vb, vh, rfl, k1, k2, -, -, k5, hR12, hg12⟩
        obtain ⟨a7, c7, rfl, -, -⟩ := k1.shape
        obtain ⟨a8, c8, rfl, -, -⟩ := k2.shape
        have HSA := Lib.hid hg12.size
        have D := Lib.hid (D.out.pick hR12 hg12)
        have KA := Lib.hid (And.intro k1 k2)
        have KZ := Lib.hid k5
        clear hR12 hg12 k1 k2 k5 KR KL x0 x1 x2 x3 x4 x5
        go_wp2_with fail
        refine (reader_d _ r _ s2 _ _ _ D.out.rd (by omega) D.out.rx HS.out.2.2.1 HS.out.2.2.2).mono ?_
        rintro e w13 ⟨g, vb, vh, rfl, k1, k2, k3', k4, k5, hR13, hg13⟩
        obtain ⟨a9, c9, rfl, -, -⟩ := k1.shape
        obtain ⟨b6, d6, rfl, -, -⟩ := k2.shape
        have D := Lib.hid (D.out.pick hR13 hg13)
        have KA := Lib.hid (And.intro (KA.out.1.chg (Chg.of_grown hg13) (fun k hk e => by have h1 := HSZ.out; have h2 : _ ≤ k := hk; cases e; omega)) (KA.out.2.chg (Chg.of_grown hg13) (fun k hk e => by have h1 := HSZ.out; have h2 : _ ≤ k := hk; cases e; omega)))
        have KG := Lib.hid (And.intro k1 (And.intro k2 (And.intro k3' (And.intro k4 k5))))
        have HSB := Lib.hid hg13.size
        clear hR13 hg13 k1 k2 k3' k4 k5 hne
        go_wp2_with fail
        refine (spoilt_d _ r _ g _ _ _ D.out.rd (by omega) KG.out.1 KG.out.2.1 KG.out.2.2.1 KG.out.2.2.2.1 KG.out.2.2.2.2).mono ?_
        rintro e w14 ⟨g2, vb, vh, rfl, k1, k2, -, -, k5, hR14, hg14⟩
        obtain ⟨b7, d7, rfl, -, -⟩ := k1.shape
        obtain ⟨b8, d8, rfl, -, -⟩ := k2.shape
        have KA := Lib.hid (And.intro (KA.out.1.chg (Chg.of_grown hg14) (fun k hk e => by have h1 := HSZ.out; have h2 : _ ≤ k := hk; cases e; omega)) (KA.out.2.chg (Chg.of_grown hg14) (fun k hk e => by have h1 := HSZ.out; have h2 : _ ≤ k := hk; cases e; omega)))
        have D := Lib.hid (D.out.pick hR14 hg14)
        have KB := Lib.hid (And.intro k1 (And.intro k2 k5))
        have hs12 := Nat.le_trans HSA.out HSB.out
        clear hR14 hg14 k1 k2 k5 KG HS
        have r0 := D.out.z2.r0
        have r1 := D.out.z2.r1
        have r2 := D.out.z2.r2
        have r3 := D.out.z2.r3
        have r4 := D.out.z2.r4
        have r5 := D.out.z2.r5
        have fr := D.out.z2.fr
        have q0 := D.out.z3.r0
        have q1 := D.out.z3.r1
        have q2 := D.out.z3.r2
        have q3 := D.out.z3.r3
        have q4 := D.out.z3.r4
        have q5 := D.out.z3.r5
        have fq := D.out.z3.fr
        go_wp2
        refine bodyPost_ret (v := .tuple #[.agg #[.int .i64 f2.pub, .int .i64 f2.len, .int .i64 f2.dig, .int .i64 f2.sign, .slice a7 f2.bs.length c7, .slice a8 f2.hv.length c8], .agg #[.int .i64 g2.pub, .int .i64 g2.len, .int .i64 g2.dig, .int .i64 g2.sign, .slice b7 g2.bs.length d7, .slice b8 g2.hv.length d8]]) (by simp [results, Try.results41, go_sem, r0, r1, r2, r3, r4, r5, q0, q1, q2, q3, q4, q5]) rfl ?_
        exact fkp_of f2 g2 (by have := HSZ.out; omega) KA.out.1 KA.out.2 (KB.out.1.sub (fun k _ hk => Nat.le_trans hs12 hk)) (KB.out.2.1.sub (fun k _ hk => Nat.le_trans hs12 hk)) KZ.out KB.out.2.2 D.out.be
      · have d3 : (m3 == 0) = false := by rw [beq_eq_false_iff_ne]; exact c3
        have HSZ := Lib.hid (And.intro D.out.hr (Nat.lt_of_lt_of_le D.out.rd.1 D.out.rd.2.1))
        go_wp2_with fail
        refine (spoilt_d _ r _ f _ _ _ D.out.rd (by omega) KR.out.1 KR.out.2 KL.out.1 KL.out.2.1 KL.out.2.2).mono ?_
        rintro e w12 ⟨f2, vb, vh, rfl, k1, k2, -, -, k5, hR12, hg12⟩
        obtain ⟨a7, c7, rfl, -, -⟩ := k1.shape
        obtain ⟨a8, c8, rfl, -, -⟩ := k2.shape
        have HSA := Lib.hid hg12.size
        have D := Lib.hid (D.out.pick hR12 hg12)
        have KA := Lib.hid (And.intro k1 k2)
        have KZ := Lib.hid k5
        clear hR12 hg12 k1 k2 k5 KR KL x0 x1 x2 x3 x4 x5
        go_wp2_with fail
        refine (reader_d _ r _ s _ _ _ D.out.rd (by omega) D.out.rx HS.out.2.2.1 HS.out.2.2.2).mono ?_
        rintro e w13 ⟨g, vb, vh, rfl, k1, k2, k3', k4, k5, hR13, hg13⟩
        obtain ⟨a9, c9, rfl, -, -⟩ := k1.shape
        obtain ⟨b6, d6, rfl, -, -⟩ := k2.shape
        have D := Lib.hid (D.out.pick hR13 hg13)
        have KA := Lib.hid (And.intro (KA.out.1.chg (Chg.of_grown hg13) (fun k hk e => by have h1 := HSZ.out; have h2 : _ ≤ k := hk; cases e; omega)) (KA.out.2.chg (Chg.of_grown hg13) (fun k hk e => by have h1 := HSZ.out; have h2 : _ ≤ k := hk; cases e; omega)))
        have KG := Lib.hid (And.intro k1 (And.intro k2 (And.intro k3' (And.intro k4 k5))))
        have HSB := Lib.hid hg13.size
        clear hR13 hg13 k1 k2 k3' k4 k5 hne
        go_wp2_with fail
        refine (spoilt_d _ r _ g _ _ _ D.out.rd (by omega) KG.out.1 KG.out.2.1 KG.out.2.2.1 KG.out.2.2.2.1 KG.out.2.2.2.2).mono ?_
        rintro e w14 ⟨g2, vb, vh, rfl, k1, k2, -, -, k5, hR14, hg14⟩
        obtain ⟨b7, d7, rfl, -, -⟩ := k1.shape
        obtain ⟨b8, d8, rfl, -, -⟩ := k2.shape
        have KA := Lib.hid (And.intro (KA.out.1.chg (Chg.of_grown hg14) (fun k hk e => by have h1 := HSZ.out; have h2 : _ ≤ k := hk; cases e; omega)) (KA.out.2.chg (Chg.of_grown hg14) (fun k hk e => by have h1 := HSZ.out; have h2 : _ ≤ k := hk; cases e; omega)))
        have D := Lib.hid (D.out.pick hR14 hg14)
        have KB := Lib.hid (And.intro k1 (And.intro k2 k5))
        have hs12 := Nat.le_trans HSA.out HSB.out
        clear hR14 hg14 k1 k2 k5 KG HS
        have r0 := D.out.z2.r0
        have r1 := D.out.z2.r1
        have r2 := D.out.z2.r2
        have r3 := D.out.z2.r3
        have r4 := D.out.z2.r4
        have r5 := D.out.z2.r5
        have fr := D.out.z2.fr
        have q0 := D.out.z3.r0
        have q1 := D.out.z3.r1
        have q2 := D.out.z3.r2
        have q3 := D.out.z3.r3
        have q4 := D.out.z3.r4
        have q5 := D.out.z3.r5
        have fq := D.out.z3.fr
        go_wp2
        refine bodyPost_ret (v := .tuple #[.agg #[.int .i64 f2.pub, .int .i64 f2.len, .int .i64 f2.dig, .int .i64 f2.sign, .slice a7 f2.bs.length c7, .slice a8 f2.hv.length c8], .agg #[.int .i64 g2.pub, .int .i64 g2.len, .int .i64 g2.dig, .int .i64 g2.sign, .slice b7 g2.bs.length d7, .slice b8 g2.hv.length d8]]) (by simp [results, Try.results41, go_sem, r0, r1, r2, r3, r4, r5, q0, q1, q2, q3, q4, q5]) rfl ?_
        exact fkp_of f2 g2 (by have := HSZ.out; omega) KA.out.1 KA.out.2 (KB.out.1.sub (fun k _ hk => Nat.le_trans hs12 hk)) (KB.out.2.1.sub (fun k _ hk => Nat.le_trans hs12 hk)) KZ.out KB.out.2.2 D.out.be
  · have hpos : 0 < bs.length := by omega
    obtain ⟨g, hgx⟩ : ∃ g, ax = some ⟨g, 0, none⟩ := by
      obtain ⟨g, c, e, -⟩ := own_nn OX.out h0
      injection e with e _ _
      exact ⟨g, e⟩
    subst hgx
    go_wp2_with fail
    refine (pick_c _ r _ 4 _ D.out.rd (by omega)).mono ?_
    rintro e w6 ⟨m, rfl, hm0, -, hR6, hg6⟩
    have D6 := Lib.hid (D.out.pick hR6 hg6)
    have OX6 := Lib.hid (own_kept_r OX.out hg6 HRW.out)
    have DV6 := Lib.hid (DV.out.chg (Chg.of_grown hg6) (fun k hk e => hk.1 (by cases e; rfl)))
    clear hR6 hg6 D DV OX
    by_cases hm : 0 < m
    · go_wp2_with fail
      refine (pick_c _ r _ bs.length _ D6.out.rd (by omega)).mono ?_
      rintro e w7 ⟨q0, rfl, hq0, hq1, hR7, hg7⟩
      have hq1 := hq1 (by omega)
      obtain ⟨q, rfl⟩ := Int.eq_ofNat_of_zero_le hq0
      have D7 := Lib.hid (D6.out.pick hR7 hg7)
      have OX7 := Lib.hid (own_kept_r OX6.out hg7 HRW.out)
      have DV7 := Lib.hid (DV6.out.chg (Chg.of_grown hg7) (fun k hk e => hk.1 (by cases e; rfl)))
      clear hR7 hg7 D6 OX6 DV6
      have s7 := OX7.out.cellAt q (by omega)
      rw [encS_at bs q (by omega)] at s7
      have f7 := OX7.out.frozenAt q
      have hqk : q < kx := by omega
      go_upto_region 7 with (fail)
      obtain ⟨X, hX⟩ : ∃ X, X = w7.setCell ⟨g, q, none⟩ (.string { data := #[102, 111, 114, 107] }) := ⟨_, rfl⟩
      rw [← hX]
      have hgX : w7.grownBy X (some g) := by rw [hX]; exact grown_set (World.grownBy.refl _ _)
      have hgw : w3.heap.size ≤ g := (own_block OX7.out g rfl).1
      have hOX : X.ownsRow w3.heap.size 9 1 (.slice (some ⟨g, 0, none⟩) bs.length kx) bs.length (encS (bs.set q (ByteArray.mk #[102, 111, 114, 107]))) := by rw [hX, ← encS_set]; exact (OX7.out.stored q _).1
      have D : Hid (DG w X r w1.heap.size (.slice a3 bs.length k3) (.slice (some ⟨g, 0, none⟩) bs.length kx) bs (bs.set q (ByteArray.mk #[102, 111, 114, 107])) (0 + 2 + 300 + 1 + 1)) := Lib.hid
        ⟨D7.out.rd.kept hgX (fun k hk => by cases hk; exact Nat.le_trans HB13.out hgw), D7.out.be.grown hgX D7.out.be.size (fun k hk => by cases hk; have := HRW.out; have := HR2.out; omega), HR2.out,
          D7.out.z2.moved hgX (by have := HR2.out; have := HRW.out; simp; omega), D7.out.z3.moved hgX (by have := HR2.out; have := HRW.out; simp; omega), (DV7.out.chg (Chg.of_grown hgX) (fun k hk e => by cases e; exact absurd hk.2 (Nat.not_lt.2 hgw))).sub (fun k _ hk => hk.1), by rw [List.length_set]; exact (RdS.of_own hOX).sub (fun k _ hk => by have := (own_block hOX k hk).1; have := HRW.out; show k ≠ r; omega)⟩
      have HS := Lib.hid (And.intro HBS.out.1 (And.intro HBS.out.2 (And.intro (show (bs.set q (ByteArray.mk #[102, 111, 114, 107])).length ≤ 16 by rw [List.length_set]; exact HBS.out.1) (show ∀ x ∈ bs.set q (ByteArray.mk #[102, 111, 114, 107]), x.size ≤ 8 from fun x hx => by
        rcases List.mem_or_eq_of_mem_set hx with h | h
        · exact HBS.out.2 x h
        · rw [h]; exact (show (4 : Nat) ≤ 8 by omega)))))
      have HXL := Lib.hid (show LenIs (bs.set q (ByteArray.mk #[102, 111, 114, 107])) bs.length from List.length_set)
      clear hX hgX hgw hOX s7 f7 hqk D7 OX7 DV7 hq0 hq1
      go_wp2_with fail
      refine (pick_c _ r _ 4 _ D.out.rd (by omega)).mono ?_
      rintro e w20 ⟨m2, rfl, hm20, -, hR20, hg20⟩
      have D := Lib.hid (D.out.pick hR20 hg20)
      clear hR20 hg20 hm20
      by_cases c2 : m2 = 0
      · subst c2
        go_wp2_with fail
        refine (pick_c _ r _ ((bs.length : Int) + 1) _ D.out.rd (by omega)).mono ?_
        rintro e w21 ⟨q2, rfl, hq20, hq21, hR21, hg21⟩
        have hq21 := hq21 (by omega)
        obtain ⟨k2, rfl⟩ := Int.eq_ofNat_of_zero_le hq20
        have hk2 : k2 ≤ bs.length := by omega
        have D := Lib.hid ((D.out.pick hR21 hg21).cut HXL.out hk2)
        have HS := Lib.hid (take_sizes HS.out k2)
        have HK2 := Lib.hid (And.intro hq20 hq21)
        clear hR21 hg21
        go_upto_region 9 with (fail)
        have HRB := Lib.hid (Nat.lt_of_lt_of_le D.out.rd.1 D.out.rd.2.1)
        go_wp2_with fail
        refine (reader_d _ r _ s _ bs _ D.out.rd (by omega) D.out.rv HS.out.1 HS.out.2.1).mono ?_
        rintro e w8 ⟨f, vb, vh, rfl, k1, k2, k3', k4, k5, hR8, hg8⟩
        obtain ⟨a5, c5, rfl, -, -⟩ := k1.shape
        obtain ⟨a6, c6, rfl, -, -⟩ := k2.shape
        have D := Lib.hid (D.out.pick hR8 hg8)
        have HRW8 := Lib.hid (Nat.lt_of_lt_of_le hR8.1 hR8.2.1)
        have KL := Lib.hid (And.intro k3' (And.intro k4 k5))
        have KR := Lib.hid (And.intro k1 k2)
        clear hR8 hg8 k1 k2 k3' k4 k5
        obtain ⟨W9, hW9⟩ : ∃ W9, W9 = w8.alloc (.cells #[.int .i64 f.pub, .int .i64 f.len, .int .i64 f.dig, .int .i64 f.sign, .slice a5 f.bs.length c5, .slice a6 f.hv.length c6] 39) := ⟨_, rfl⟩
        have hb9 : Below w8.heap.size w8 W9 := by rw [hW9]; (repeat' (first | exact Below.refl _ _ | assumption | refine Below.drew ?_ | refine below_drewN ?_ _ | refine Below.alloc ?_ (by omega) _ | refine Below.alloc ?_ (by simp; omega) _ | refine Below.alloc ?_ (by simp) _ | refine Below.setCell ?_ (by omega) _ | refine Below.setCell ?_ (by simp; omega) _ | refine Below.setCell ?_ (by simp) _))
        have D := Lib.hid (D.out.below hb9)
        have KR := Lib.hid (And.intro (KR.out.1.below hb9) (KR.out.2.below hb9))
        have hlt9 : w8.heap.size < W9.heap.size := by rw [hW9]; simp
        have x0 : W9.cell? ⟨w8.heap.size, 0, none⟩ = some (.int .i64 f.pub) := by rw [hW9]; exact cell_new rfl rfl
        have x1 : W9.cell? ⟨w8.heap.size, 1, none⟩ = some (.int .i64 f.len) := by rw [hW9]; exact cell_new rfl rfl
        have x2 : W9.cell? ⟨w8.heap.size, 2, none⟩ = some (.int .i64 f.dig) := by rw [hW9]; exact cell_new rfl rfl
        have x3 : W9.cell? ⟨w8.heap.size, 3, none⟩ = some (.int .i64 f.sign) := by rw [hW9]; exact cell_new rfl rfl
        have x4 : W9.cell? ⟨w8.heap.size, 4, none⟩ = some (.slice a5 f.bs.length c5) := by rw [hW9]; exact cell_new rfl rfl
        have x5 : W9.cell? ⟨w8.heap.size, 5, none⟩ = some (.slice a6 f.hv.length c6) := by rw [hW9]; exact cell_new rfl rfl
        clear hb9
        go_upto_region 10 with (fail)
        rw [← hW9]
        clear hW9
        go_wp2_with fail
        refine (pick_c _ r _ 10 _ D.out.rd (by omega)).mono ?_
        rintro e w10 ⟨m3, rfl, hm30, -, hR10, hg10⟩
        have D := Lib.hid (D.out.pick hR10 hg10)
        have hne : some w8.heap.size ≠ some r := by have := HRW8.out; simp; omega
        have KR := Lib.hid (And.intro (KR.out.1.chg (Chg.of_grown hg10) (fun k hk e => by have h1 := HRB.out; have h2 : _ ≤ k := hk; cases e; omega)) (KR.out.2.chg (Chg.of_grown hg10) (fun k hk e => by have h1 := HRB.out; have h2 : _ ≤ k := hk; cases e; omega)))
        have x0 := grown_cell hg10 x0 hne
        have x1 := grown_cell hg10 x1 hne
        have x2 := grown_cell hg10 x2 hne
        have x3 := grown_cell hg10 x3 hne
        have x4 := grown_cell hg10 x4 hne
        have x5 := grown_cell hg10 x5 hne
        clear hR10 hg10 hm30
        by_cases c3 : m3 = 0
        · subst c3
          go_wp2_with fail
          refine (good_c _ r _ _ D.out.rd (by omega)).mono ?_
          rintro e w11 ⟨s2, rfl, -, -, hR11, hg11⟩
          have D := Lib.hid (D.out.pick hR11 hg11)
          have KR := Lib.hid (And.intro (KR.out.1.chg (Chg.of_grown hg11) (fun k hk e => by have h1 := HRB.out; have h2 : _ ≤ k := hk; cases e; omega)) (KR.out.2.chg (Chg.of_grown hg11) (fun k hk e => by have h1 := HRB.out; have h2 : _ ≤ k := hk; cases e; omega)))
          have x0 := grown_cell hg11 x0 hne
          have x1 := grown_cell hg11 x1 hne
          have x2 := grown_cell hg11 x2 hne
          have x3 := grown_cell hg11 x3 hne
          have x4 := grown_cell hg11 x4 hne
          have x5 := grown_cell hg11 x5 hne
          clear hR11 hg11
          have HSZ := Lib.hid (And.intro D.out.hr (Nat.lt_of_lt_of_le D.out.rd.1 D.out.rd.2.1))
          go_wp2_with fail
          refine (spoilt_d _ r _ f _ _ _ D.out.rd (by omega) KR.out.1 KR.out.2 KL.out.1 KL.out.2.1 KL.out.2.2).mono ?_
          rintro e w12 ⟨f2, vb, vh, rfl, k1, k2, -, -, k5, hR12, hg12⟩
          obtain ⟨a7, c7, rfl, -, -⟩ := k1.shape
          obtain ⟨a8, c8, rfl, -, -⟩ := k2.shape
          have HSA := Lib.hid hg12.size
          have D := Lib.hid (D.out.pick hR12 hg12)
          have KA := Lib.hid (And.intro k1 k2)
          have KZ := Lib.hid k5
          clear hR12 hg12 k1 k2 k5 KR KL x0 x1 x2 x3 x4 x5
          go_wp2_with fail
          refine (reader_d _ r _ s2 _ _ _ D.out.rd (by omega) D.out.rx HS.out.2.2.1 HS.out.2.2.2).mono ?_
          rintro e w13 ⟨g, vb, vh, rfl, k1, k2, k3', k4, k5, hR13, hg13⟩
          obtain ⟨a9, c9, rfl, -, -⟩ := k1.shape
          obtain ⟨b6, d6, rfl, -, -⟩ := k2.shape
          have D := Lib.hid (D.out.pick hR13 hg13)
          have KA := Lib.hid (And.intro (KA.out.1.chg (Chg.of_grown hg13) (fun k hk e => by have h1 := HSZ.out; have h2 : _ ≤ k := hk; cases e; omega)) (KA.out.2.chg (Chg.of_grown hg13) (fun k hk e => by have h1 := HSZ.out; have h2 : _ ≤ k := hk; cases e; omega)))
          have KG := Lib.hid (And.intro k1 (And.intro k2 (And.intro k3' (And.intro k4 k5))))
          have HSB := Lib.hid hg13.size
          clear hR13 hg13 k1 k2 k3' k4 k5 hne
          go_wp2_with fail
          refine (spoilt_d _ r _ g _ _ _ D.out.rd (by omega) KG.out.1 KG.out.2.1 KG.out.2.2.1 KG.out.2.2.2.1 KG.out.2.2.2.2).mono ?_
          rintro e w14 ⟨g2, vb, vh, rfl, k1, k2, -, -, k5, hR14, hg14⟩
          obtain ⟨b7, d7, rfl, -, -⟩ := k1.shape
          obtain ⟨b8, d8, rfl, -, -⟩ := k2.shape
          have KA := Lib.hid (And.intro (KA.out.1.chg (Chg.of_grown hg14) (fun k hk e => by have h1 := HSZ.out; have h2 : _ ≤ k := hk; cases e; omega)) (KA.out.2.chg (Chg.of_grown hg14) (fun k hk e => by have h1 := HSZ.out; have h2 : _ ≤ k := hk; cases e; omega)))
          have D := Lib.hid (D.out.pick hR14 hg14)
          have KB := Lib.hid (And.intro k1 (And.intro k2 k5))
          have hs12 := Nat.le_trans HSA.out HSB.out
          clear hR14 hg14 k1 k2 k5 KG HS
          have r0 := D.out.z2.r0
          have r1 := D.out.z2.r1
          have r2 := D.out.z2.r2
          have r3 := D.out.z2.r3
          have r4 := D.out.z2.r4
          have r5 := D.out.z2.r5
          have fr := D.out.z2.fr
          have q0 := D.out.z3.r0
          have q1 := D.out.z3.r1
          have q2 := D.out.z3.r2
          have q3 := D.out.z3.r3
          have q4 := D.out.z3.r4
          have q5 := D.out.z3.r5
          have fq := D.out.z3.fr
          go_wp2
          refine bodyPost_ret (v := .tuple #[.agg #[.int .i64 f2.pub, .int .i64 f2.len, .int .i64 f2.dig, .int .i64 f2.sign, .slice a7 f2.bs.length c7, .slice a8 f2.hv.length c8], .agg #[.int .i64 g2.pub, .int .i64 g2.len, .int .i64 g2.dig, .int .i64 g2.sign, .slice b7 g2.bs.length d7, .slice b8 g2.hv.length d8]]) (by simp [results, Try.results41, go_sem, r0, r1, r2, r3, r4, r5, q0, q1, q2, q3, q4, q5]) rfl ?_
          exact fkp_of f2 g2 (by have := HSZ.out; omega) KA.out.1 KA.out.2 (KB.out.1.sub (fun k _ hk => Nat.le_trans hs12 hk)) (KB.out.2.1.sub (fun k _ hk => Nat.le_trans hs12 hk)) KZ.out KB.out.2.2 D.out.be
        · have d3 : (m3 == 0) = false := by rw [beq_eq_false_iff_ne]; exact c3
          have HSZ := Lib.hid (And.intro D.out.hr (Nat.lt_of_lt_of_le D.out.rd.1 D.out.rd.2.1))
          go_wp2_with fail
          refine (spoilt_d _ r _ f _ _ _ D.out.rd (by omega) KR.out.1 KR.out.2 KL.out.1 KL.out.2.1 KL.out.2.2).mono ?_
          rintro e w12 ⟨f2, vb, vh, rfl, k1, k2, -, -, k5, hR12, hg12⟩
          obtain ⟨a7, c7, rfl, -, -⟩ := k1.shape
          obtain ⟨a8, c8, rfl, -, -⟩ := k2.shape
          have HSA := Lib.hid hg12.size
          have D := Lib.hid (D.out.pick hR12 hg12)
          have KA := Lib.hid (And.intro k1 k2)
          have KZ := Lib.hid k5
          clear hR12 hg12 k1 k2 k5 KR KL x0 x1 x2 x3 x4 x5
          go_wp2_with fail
          refine (reader_d _ r _ s _ _ _ D.out.rd (by omega) D.out.rx HS.out.2.2.1 HS.out.2.2.2).mono ?_
          rintro e w13 ⟨g, vb, vh, rfl, k1, k2, k3', k4, k5, hR13, hg13⟩
          obtain ⟨a9, c9, rfl, -, -⟩ := k1.shape
          obtain ⟨b6, d6, rfl, -, -⟩ := k2.shape
          have D := Lib.hid (D.out.pick hR13 hg13)
          have KA := Lib.hid (And.intro (KA.out.1.chg (Chg.of_grown hg13) (fun k hk e => by have h1 := HSZ.out; have h2 : _ ≤ k := hk; cases e; omega)) (KA.out.2.chg (Chg.of_grown hg13) (fun k hk e => by have h1 := HSZ.out; have h2 : _ ≤ k := hk; cases e; omega)))
          have KG := Lib.hid (And.intro k1 (And.intro k2 (And.intro k3' (And.intro k4 k5))))
          have HSB := Lib.hid hg13.size
          clear hR13 hg13 k1 k2 k3' k4 k5 hne
          go_wp2_with fail
          refine (spoilt_d _ r _ g _ _ _ D.out.rd (by omega) KG.out.1 KG.out.2.1 KG.out.2.2.1 KG.out.2.2.2.1 KG.out.2.2.2.2).mono ?_
          rintro e w14 ⟨g2, vb, vh, rfl, k1, k2, -, -, k5, hR14, hg14⟩
          obtain ⟨b7, d7, rfl, -, -⟩ := k1.shape
          obtain ⟨b8, d8, rfl, -, -⟩ := k2.shape
          have KA := Lib.hid (And.intro (KA.out.1.chg (Chg.of_grown hg14) (fun k hk e => by have h1 := HSZ.out; have h2 : _ ≤ k := hk; cases e; omega)) (KA.out.2.chg (Chg.of_grown hg14) (fun k hk e => by have h1 := HSZ.out; have h2 : _ ≤ k := hk; cases e; omega)))
          have D := Lib.hid (D.out.pick hR14 hg14)
          have KB := Lib.hid (And.intro k1 (And.intro k2 k5))
          have hs12 := Nat.le_trans HSA.out HSB.out
          clear hR14 hg14 k1 k2 k5 KG HS
          have r0 := D.out.z2.r0
          have r1 := D.out.z2.r1
          have r2 := D.out.z2.r2
          have r3 := D.out.z2.r3
          have r4 := D.out.z2.r4
          have r5 := D.out.z2.r5
          have fr := D.out.z2.fr
          have q0 := D.out.z3.r0
          have q1 := D.out.z3.r1
          have q2 := D.out.z3.r2
          have q3 := D.out.z3.r3
          have q4 := D.out.z3.r4
          have q5 := D.out.z3.r5
          have fq := D.out.z3.fr
          go_wp2
          refine bodyPost_ret (v := .tuple #[.agg #[.int .i64 f2.pub, .int .i64 f2.len, .int .i64 f2.dig, .int .i64 f2.sign, .slice a7 f2.bs.length c7, .slice a8 f2.hv.length c8], .agg #[.int .i64 g2.pub, .int .i64 g2.len, .int .i64 g2.dig, .int .i64 g2.sign, .slice b7 g2.bs.length d7, .slice b8 g2.hv.length d8]]) (by simp [results, Try.results41, go_sem, r0, r1, r2, r3, r4, r5, q0, q1, q2, q3, q4, q5]) rfl ?_
          exact fkp_of f2 g2 (by have := HSZ.out; omega) KA.out.1 KA.out.2 (KB.out.1.sub (fun k _ hk => Nat.le_trans hs12 hk)) (KB.out.2.1.sub (fun k _ hk => Nat.le_trans hs12 hk)) KZ.out KB.out.2.2 D.out.be
      · have d2 : (m2 == 0) = false := by rw [beq_eq_false_iff_ne]; exact c2
        go_upto_region 9 with (fail)
        have HRB := Lib.hid (Nat.lt_of_lt_of_le D.out.rd.1 D.out.rd.2.1)
        go_wp2_with fail
        refine (reader_d _ r _ s _ bs _ D.out.rd (by omega) D.out.rv HS.out.1 HS.out.2.1).mono ?_
        rintro e w8 ⟨f, vb, vh, rfl, k1, k2, k3', k4, k5, hR8, hg8⟩
        obtain ⟨a5, c5, rfl, -, -⟩ := k1.shape
        obtain ⟨a6, c6, rfl, -, -⟩ := k2.shape
        have D := Lib.hid (D.out.pick hR8 hg8)
        have HRW8 := Lib.hid (Nat.lt_of_lt_of_le hR8.1 hR8.2.1)
        have KL := Lib.hid (And.intro k3' (And.intro k4 k5))
        have KR := Lib.hid (And.intro k1 k2)
        clear hR8 hg8 k1 k2 k3' k4 k5
        obtain ⟨W9, hW9⟩ : ∃ W9, W9 = w8.alloc (.cells #[.int .i64 f.pub, .int .i64 f.len, .int .i64 f.dig, .int .i64 f.sign, .slice a5 f.bs.length c5, .slice a6 f.hv.length c6] 39) := ⟨_, rfl⟩
        have hb9 : Below w8.heap.size w8 W9 := by rw [hW9]; (repeat' (first | exact Below.refl _ _ | assumption | refine Below.drew ?_ | refine below_drewN ?_ _ | refine Below.alloc ?_ (by omega) _ | refine Below.alloc ?_ (by simp; omega) _ | refine Below.alloc ?_ (by simp) _ | refine Below.setCell ?_ (by omega) _ | refine Below.setCell ?_ (by simp; omega) _ | refine Below.setCell ?_ (by simp) _))
        have D := Lib.hid (D.out.below hb9)
        have KR := Lib.hid (And.intro (KR.out.1.below hb9) (KR.out.2.below hb9))
        have hlt9 : w8.heap.size < W9.heap.size := by rw [hW9]; simp
        have x0 : W9.cell? ⟨w8.heap.size, 0, none⟩ = some (.int .i64 f.pub) := by rw [hW9]; exact cell_new rfl rfl
        have x1 : W9.cell? ⟨w8.heap.size, 1, none⟩ = some (.int .i64 f.len) := by rw [hW9]; exact cell_new rfl rfl
        have x2 : W9.cell? ⟨w8.heap.size, 2, none⟩ = some (.int .i64 f.dig) := by rw [hW9]; exact cell_new rfl rfl
        have x3 : W9.cell? ⟨w8.heap.size, 3, none⟩ = some (.int .i64 f.sign) := by rw [hW9]; exact cell_new rfl rfl
        have x4 : W9.cell? ⟨w8.heap.size, 4, none⟩ = some (.slice a5 f.bs.length c5) := by rw [hW9]; exact cell_new rfl rfl
        have x5 : W9.cell? ⟨w8.heap.size, 5, none⟩ = some (.slice a6 f.hv.length c6) := by rw [hW9]; exact cell_new rfl rfl
        clear hb9
        go_upto_region 10 with (fail)
        rw [← hW9]
        clear hW9
        go_wp2_with fail
        refine (pick_c _ r _ 10 _ D.out.rd (by omega)).mono ?_
        rintro e w10 ⟨m3, rfl, hm30, -, hR10, hg10⟩
        have D := Lib.hid (D.out.pick hR10 hg10)
        have hne : some w8.heap.size ≠ some r := by have := HRW8.out; simp; omega
        have KR := Lib.hid (And.intro (KR.out.1.chg (Chg.of_grown hg10) (fun k hk e => by have h1 := HRB.out; have h2 : _ ≤ k := hk; cases e; omega)) (KR.out.2.chg (Chg.of_grown hg10) (fun k hk e => by have h1 := HRB.out; have h2 : _ ≤ k := hk; cases e; omega)))
        have x0 := grown_cell hg10 x0 hne
        have x1 := grown_cell hg10 x1 hne
        have x2 := grown_cell hg10 x2 hne
        have x3 := grown_cell hg10 x3 hne
        have x4 := grown_cell hg10 x4 hne
        have x5 := grown_cell hg10 x5 hne
        clear hR10 hg10 hm30
        by_cases c3 : m3 = 0
        · subst c3
          go_wp2_with fail
          refine (good_c _ r _ _ D.out.rd (by omega)).mono ?_
          rintro e w11 ⟨s2, rfl, -, -, hR11, hg11⟩
          have D := Lib.hid (D.out.pick hR11 hg11)
          have KR := Lib.hid (And.intro (KR.out.1.chg (Chg.of_grown hg11) (fun k hk e => by have h1 := HRB.out; have h2 : _ ≤ k := hk; cases e; omega)) (KR.out.2.chg (Chg.of_grown hg11) (fun k hk e => by have h1 := HRB.out; have h2 : _ ≤ k := hk; cases e; omega)))
          have x0 := grown_cell hg11 x0 hne
          have x1 := grown_cell hg11 x1 hne
          have x2 := grown_cell hg11 x2 hne
          have x3 := grown_cell hg11 x3 hne
          have x4 := grown_cell hg11 x4 hne
          have x5 := grown_cell hg11 x5 hne
          clear hR11 hg11
          have HSZ := Lib.hid (And.intro D.out.hr (Nat.lt_of_lt_of_le D.out.rd.1 D.out.rd.2.1))
          go_wp2_with fail
          refine (spoilt_d _ r _ f _ _ _ D.out.rd (by omega) KR.out.1 KR.out.2 KL.out.1 KL.out.2.1 KL.out.2.2).mono ?_
          rintro e w12 ⟨f2, vb, vh, rfl, k1, k2, -, -, k5, hR12, hg12⟩
          obtain ⟨a7, c7, rfl, -, -⟩ := k1.shape
          obtain ⟨a8, c8, rfl, -, -⟩ := k2.shape
          have HSA := Lib.hid hg12.size
          have D := Lib.hid (D.out.pick hR12 hg12)
          have KA := Lib.hid (And.intro k1 k2)
          have KZ := Lib.hid k5
          clear hR12 hg12 k1 k2 k5 KR KL x0 x1 x2 x3 x4 x5
          go_wp2_with fail
          refine (reader_d _ r _ s2 _ _ _ D.out.rd (by omega) D.out.rx HS.out.2.2.1 HS.out.2.2.2).mono ?_
          rintro e w13 ⟨g, vb, vh, rfl, k1, k2, k3', k4, k5, hR13, hg13⟩
          obtain ⟨a9, c9, rfl, -, -⟩ := k1.shape
          obtain ⟨b6, d6, rfl, -, -⟩ := k2.shape
          have D := Lib.hid (D.out.pick hR13 hg13)
          have KA := Lib.hid (And.intro (KA.out.1.chg (Chg.of_grown hg13) (fun k hk e => by have h1 := HSZ.out; have h2 : _ ≤ k := hk; cases e; omega)) (KA.out.2.chg (Chg.of_grown hg13) (fun k hk e => by have h1 := HSZ.out; have h2 : _ ≤ k := hk; cases e; omega)))
          have KG := Lib.hid (And.intro k1 (And.intro k2 (And.intro k3' (And.intro k4 k5))))
          have HSB := Lib.hid hg13.size
          clear hR13 hg13 k1 k2 k3' k4 k5 hne
          go_wp2_with fail
          refine (spoilt_d _ r _ g _ _ _ D.out.rd (by omega) KG.out.1 KG.out.2.1 KG.out.2.2.1 KG.out.2.2.2.1 KG.out.2.2.2.2).mono ?_
          rintro e w14 ⟨g2, vb, vh, rfl, k1, k2, -, -, k5, hR14, hg14⟩
          obtain ⟨b7, d7, rfl, -, -⟩ := k1.shape
          obtain ⟨b8, d8, rfl, -, -⟩ := k2.shape
          have KA := Lib.hid (And.intro (KA.out.1.chg (Chg.of_grown hg14) (fun k hk e => by have h1 := HSZ.out; have h2 : _ ≤ k := hk; cases e; omega)) (KA.out.2.chg (Chg.of_grown hg14) (fun k hk e => by have h1 := HSZ.out; have h2 : _ ≤ k := hk; cases e; omega)))
          have D := Lib.hid (D.out.pick hR14 hg14)
          have KB := Lib.hid (And.intro k1 (And.intro k2 k5))
          have hs12 := Nat.le_trans HSA.out HSB.out
          clear hR14 hg14 k1 k2 k5 KG HS
          have r0 := D.out.z2.r0
          have r1 := D.out.z2.r1
          have r2 := D.out.z2.r2
          have r3 := D.out.z2.r3
          have r4 := D.out.z2.r4
          have r5 := D.out.z2.r5
          have fr := D.out.z2.fr
          have q0 := D.out.z3.r0
          have q1 := D.out.z3.r1
          have q2 := D.out.z3.r2
          have q3 := D.out.z3.r3
          have q4 := D.out.z3.r4
          have q5 := D.out.z3.r5
          have fq := D.out.z3.fr
          go_wp2
          refine bodyPost_ret (v := .tuple #[.agg #[.int .i64 f2.pub, .int .i64 f2.len, .int .i64 f2.dig, .int .i64 f2.sign, .slice a7 f2.bs.length c7, .slice a8 f2.hv.length c8], .agg #[.int .i64 g2.pub, .int .i64 g2.len, .int .i64 g2.dig, .int .i64 g2.sign, .slice b7 g2.bs.length d7, .slice b8 g2.hv.length d8]]) (by simp [results, Try.results41, go_sem, r0, r1, r2, r3, r4, r5, q0, q1, q2, q3, q4, q5]) rfl ?_
          exact fkp_of f2 g2 (by have := HSZ.out; omega) KA.out.1 KA.out.2 (KB.out.1.sub (fun k _ hk => Nat.le_trans hs12 hk)) (KB.out.2.1.sub (fun k _ hk => Nat.le_trans hs12 hk)) KZ.out KB.out.2.2 D.out.be
        · have d3 : (m3 == 0) = false := by rw [beq_eq_false_iff_ne]; exact c3
          have HSZ := Lib.hid (And.intro D.out.hr (Nat.lt_of_lt_of_le D.out.rd.1 D.out.rd.2.1))
          go_wp2_with fail
          refine (spoilt_d _ r _ f _ _ _ D.out.rd (by omega) KR.out.1 KR.out.2 KL.out.1 KL.out.2.1 KL.out.2.2).mono ?_
          rintro e w12 ⟨f2, vb, vh, rfl, k1, k2, -, -, k5, hR12, hg12⟩
          obtain ⟨a7, c7, rfl, -, -⟩ := k1.shape
          obtain ⟨a8, c8, rfl, -, -⟩ := k2.shape
          have HSA := Lib.hid hg12.size
          have D := Lib.hid (D.out.pick hR12 hg12)
          have KA := Lib.hid (And.intro k1 k2)
          have KZ := Lib.hid k5
          clear hR12 hg12 k1 k2 k5 KR KL x0 x1 x2 x3 x4 x5
          go_wp2_with fail
          refine (reader_d _ r _ s _ _ _ D.out.rd (by omega) D.out.rx HS.out.2.2.1 HS.out.2.2.2).mono ?_
          rintro e w13 ⟨g, vb, vh, rfl, k1, k2, k3', k4, k5, hR13, hg13⟩
          obtain ⟨a9, c9, rfl, -, -⟩ := k1.shape
          obtain ⟨b6, d6, rfl, -, -⟩ := k2.shape
          have D := Lib.hid (D.out.pick hR13 hg13)
          have KA := Lib.hid (And.intro (KA.out.1.chg (Chg.of_grown hg13) (fun k hk e => by have h1 := HSZ.out; have h2 : _ ≤ k := hk; cases e; omega)) (KA.out.2.chg (Chg.of_grown hg13) (fun k hk e => by have h1 := HSZ.out; have h2 : _ ≤ k := hk; cases e; omega)))
          have KG := Lib.hid (And.intro k1 (And.intro k2 (And.intro k3' (And.intro k4 k5))))
          have HSB := Lib.hid hg13.size
          clear hR13 hg13 k1 k2 k3' k4 k5 hne
          go_wp2_with fail
          refine (spoilt_d _ r _ g _ _ _ D.out.rd (by omega) KG.out.1 KG.out.2.1 KG.out.2.2.1 KG.out.2.2.2.1 KG.out.2.2.2.2).mono ?_
          rintro e w14 ⟨g2, vb, vh, rfl, k1, k2, -, -, k5, hR14, hg14⟩
          obtain ⟨b7, d7, rfl, -, -⟩ := k1.shape
          obtain ⟨b8, d8, rfl, -, -⟩ := k2.shape
          have KA := Lib.hid (And.intro (KA.out.1.chg (Chg.of_grown hg14) (fun k hk e => by have h1 := HSZ.out; have h2 : _ ≤ k := hk; cases e; omega)) (KA.out.2.chg (Chg.of_grown hg14) (fun k hk e => by have h1 := HSZ.out; have h2 : _ ≤ k := hk; cases e; omega)))
          have D := Lib.hid (D.out.pick hR14 hg14)
          have KB := Lib.hid (And.intro k1 (And.intro k2 k5))
          have hs12 := Nat.le_trans HSA.out HSB.out
          clear hR14 hg14 k1 k2 k5 KG HS
          have r0 := D.out.z2.r0
          have r1 := D.out.z2.r1
          have r2 := D.out.z2.r2
          have r3 := D.out.z2.r3
          have r4 := D.out.z2.r4
          have r5 := D.out.z2.r5
          have fr := D.out.z2.fr
          have q0 := D.out.z3.r0
          have q1 := D.out.z3.r1
          have q2 := D.out.z3.r2
          have q3 := D.out.z3.r3
          have q4 := D.out.z3.r4
          have q5 := D.out.z3.r5
          have fq := D.out.z3.fr
          go_wp2
          refine bodyPost_ret (v := .tuple #[.agg #[.int .i64 f2.pub, .int .i64 f2.len, .int .i64 f2.dig, .int .i64 f2.sign, .slice a7 f2.bs.length c7, .slice a8 f2.hv.length c8], .agg #[.int .i64 g2.pub, .int .i64 g2.len, .int .i64 g2.dig, .int .i64 g2.sign, .slice b7 g2.bs.length d7, .slice b8 g2.hv.length d8]]) (by simp [results, Try.results41, go_sem, r0, r1, r2, r3, r4, r5, q0, q1, q2, q3, q4, q5]) rfl ?_
          exact fkp_of f2 g2 (by have := HSZ.out; omega) KA.out.1 KA.out.2 (KB.out.1.sub (fun k _ hk => Nat.le_trans hs12 hk)) (KB.out.2.1.sub (fun k _ hk => Nat.le_trans hs12 hk)) KZ.out KB.out.2.2 D.out.be
    · obtain rfl : m = 0 := by omega
      have HS := Lib.hid (And.intro HBS.out.1 (And.intro HBS.out.2 (And.intro HBS.out.1 HBS.out.2)))
      have HXL := Lib.hid (show LenIs bs bs.length from rfl)
      have D := D6
      clear D6 OX6 DV6
      go_upto_region 7 with (fail)
      go_wp2_with fail
      refine (pick_c _ r _ 4 _ D.out.rd (by omega)).mono ?_
      rintro e w20 ⟨m2, rfl, hm20, -, hR20, hg20⟩
      have D := Lib.hid (D.out.pick hR20 hg20)
      clear hR20 hg20 hm20
      by_cases c2 : m2 = 0
      · subst c2
        go_wp2_with fail
        refine (pick_c _ r _ ((bs.length : Int) + 1) _ D.out.rd (by omega)).mono ?_
        rintro e w21 ⟨q2, rfl, hq20, hq21, hR21, hg21⟩
        have hq21 := hq21 (by omega)
        obtain ⟨k2, rfl⟩ := Int.eq_ofNat_of_zero_le hq20
        have hk2 : k2 ≤ bs.length := by omega
        have D := Lib.hid ((D.out.pick hR21 hg21).cut HXL.out hk2)
        have HS := Lib.hid (take_sizes HS.out k2)
        have HK2 := Lib.hid (And.intro hq20 hq21)
        clear hR21 hg21
        go_upto_region 9 with (fail)
        have HRB := Lib.hid (Nat.lt_of_lt_of_le D.out.rd.1 D.out.rd.2.1)
        go_wp2_with fail
        refine (reader_d _ r _ s _ bs _ D.out.rd (by omega) D.out.rv HS.out.1 HS.out.2.1).mono ?_
        rintro e w8 ⟨f, vb, vh, rfl, k1, k2, k3', k4, k5, hR8, hg8⟩
        obtain ⟨a5, c5, rfl, -, -⟩ := k1.shape
        obtain ⟨a6, c6, rfl, -, -⟩ := k2.shape
        have D := Lib.hid (D.out.pick hR8 hg8)
        have HRW8 := Lib.hid (Nat.lt_of_lt_of_le hR8.1 hR8.2.1)
        have KL := Lib.hid (And.intro k3' (And.intro k4 k5))
        have KR := Lib.hid (And.intro k1 k2)
        clear hR8 hg8 k1 k2 k3' k4 k5
        obtain ⟨W9, hW9⟩ : ∃ W9, W9 = w8.alloc (.cells #[.int .i64 f.pub, .int .i64 f.len, .int .i64 f.dig, .int .i64 f.sign, .slice a5 f.bs.length c5, .slice a6 f.hv.length c6] 39) := ⟨_, rfl⟩
        have hb9 : Below w8.heap.size w8 W9 := by rw [hW9]; (repeat' (first | exact Below.refl _ _ | assumption | refine Below.drew ?_ | refine below_drewN ?_ _ | refine Below.alloc ?_ (by omega) _ | refine Below.alloc ?_ (by simp; omega) _ | refine Below.alloc ?_ (by simp) _ | refine Below.setCell ?_ (by omega) _ | refine Below.setCell ?_ (by simp; omega) _ | refine Below.setCell ?_ (by simp) _))
        have D := Lib.hid (D.out.below hb9)
        have KR := Lib.hid (And.intro (KR.out.1.below hb9) (KR.out.2.below hb9))
        have hlt9 : w8.heap.size < W9.heap.size := by rw [hW9]; simp
        have x0 : W9.cell? ⟨w8.heap.size, 0, none⟩ = some (.int .i64 f.pub) := by rw [hW9]; exact cell_new rfl rfl
        have x1 : W9.cell? ⟨w8.heap.size, 1, none⟩ = some (.int .i64 f.len) := by rw [hW9]; exact cell_new rfl rfl
        have x2 : W9.cell? ⟨w8.heap.size, 2, none⟩ = some (.int .i64 f.dig) := by rw [hW9]; exact cell_new rfl rfl
        have x3 : W9.cell? ⟨w8.heap.size, 3, none⟩ = some (.int .i64 f.sign) := by rw [hW9]; exact cell_new rfl rfl
        have x4 : W9.cell? ⟨w8.heap.size, 4, none⟩ = some (.slice a5 f.bs.length c5) := by rw [hW9]; exact cell_new rfl rfl
        have x5 : W9.cell? ⟨w8.heap.size, 5, none⟩ = some (.slice a6 f.hv.length c6) := by rw [hW9]; exact cell_new rfl rfl
        clear hb9
        go_upto_region 10 with (fail)
        rw [← hW9]
        clear hW9
        go_wp2_with fail
        refine (pick_c _ r _ 10 _ D.out.rd (by omega)).mono ?_
        rintro e w10 ⟨m3, rfl, hm30, -, hR10, hg10⟩
        have D := Lib.hid (D.out.pick hR10 hg10)
        have hne : some w8.heap.size ≠ some r := by have := HRW8.out; simp; omega
        have KR := Lib.hid (And.intro (KR.out.1.chg (Chg.of_grown hg10) (fun k hk e => by have h1 := HRB.out; have h2 : _ ≤ k := hk; cases e; omega)) (KR.out.2.chg (Chg.of_grown hg10) (fun k hk e => by have h1 := HRB.out; have h2 : _ ≤ k := hk; cases e; omega)))
        have x0 := grown_cell hg10 x0 hne
        have x1 := grown_cell hg10 x1 hne
        have x2 := grown_cell hg10 x2 hne
        have x3 := grown_cell hg10 x3 hne
        have x4 := grown_cell hg10 x4 hne
        have x5 := grown_cell hg10 x5 hne
        clear hR10 hg10 hm30
        by_cases c3 : m3 = 0
        · subst c3
          go_wp2_with fail
          refine (good_c _ r _ _ D.out.rd (by omega)).mono ?_
          rintro e w11 ⟨s2, rfl, -, -, hR11, hg11⟩
          have D := Lib.hid (D.out.pick hR11 hg11)
          have KR := Lib.hid (And.intro (KR.out.1.chg (Chg.of_grown hg11) (fun k hk e => by have h1 := HRB.out; have h2 : _ ≤ k := hk; cases e; omega)) (KR.out.2.chg (Chg.of_grown hg11) (fun k hk e => by have h1 := HRB.out; have h2 : _ ≤ k := hk; cases e; omega)))
          have x0 := grown_cell hg11 x0 hne
          have x1 := grown_cell hg11 x1 hne
          have x2 := grown_cell hg11 x2 hne
          have x3 := grown_cell hg11 x3 hne
          have x4 := grown_cell hg11 x4 hne
          have x5 := grown_cell hg11 x5 hne
          clear hR11 hg11
          have HSZ := Lib.hid (And.intro D.out.hr (Nat.lt_of_lt_of_le D.out.rd.1 D.out.rd.2.1))
          go_wp2_with fail
          refine (spoilt_d _ r _ f _ _ _ D.out.rd (by omega) KR.out.1 KR.out.2 KL.out.1 KL.out.2.1 KL.out.2.2).mono ?_
          rintro e w12 ⟨f2, vb, vh, rfl, k1, k2, -, -, k5, hR12, hg12⟩
          obtain ⟨a7, c7, rfl, -, -⟩ := k1.shape
          obtain ⟨a8, c8, rfl, -, -⟩ := k2.shape
          have HSA := Lib.hid hg12.size
          have D := Lib.hid (D.out.pick hR12 hg12)
          have KA := Lib.hid (And.intro k1 k2)
          have KZ := Lib.hid k5
          clear hR12 hg12 k1 k2 k5 KR KL x0 x1 x2 x3 x4 x5
          go_wp2_with fail
          refine (reader_d _ r _ s2 _ _ _ D.out.rd (by omega) D.out.rx HS.out.2.2.1 HS.out.2.2.2).mono ?_
          rintro e w13 ⟨g, vb, vh, rfl, k1, k2, k3', k4, k5, hR13, hg13⟩
          obtain ⟨a9, c9, rfl, -, -⟩ := k1.shape
          obtain ⟨b6, d6, rfl, -, -⟩ := k2.shape
          have D := Lib.hid (D.out.pick hR13 hg13)
          have KA := Lib.hid (And.intro (KA.out.1.chg (Chg.of_grown hg13) (fun k hk e => by have h1 := HSZ.out; have h2 : _ ≤ k := hk; cases e; omega)) (KA.out.2.chg (Chg.of_grown hg13) (fun k hk e => by have h1 := HSZ.out; have h2 : _ ≤ k := hk; cases e; omega)))
          have KG := Lib.hid (And.intro k1 (And.intro k2 (And.intro k3' (And.intro k4 k5))))
          have HSB := Lib.hid hg13.size
          clear hR13 hg13 k1 k2 k3' k4 k5 hne
          go_wp2_with fail
          refine (spoilt_d _ r _ g _ _ _ D.out.rd (by omega) KG.out.1 KG.out.2.1 KG.out.2.2.1 KG.out.2.2.2.1 KG.out.2.2.2.2).mono ?_
          rintro e w14 ⟨g2, vb, vh, rfl, k1, k2, -, -, k5, hR14, hg14⟩
          obtain ⟨b7, d7, rfl, -, -⟩ := k1.shape
          obtain ⟨b8, d8, rfl, -, -⟩ := k2.shape
          have KA := Lib.hid (And.intro (KA.out.1.chg (Chg.of_grown hg14) (fun k hk e => by have h1 := HSZ.out; have h2 : _ ≤ k := hk; cases e; omega)) (KA.out.2.chg (Chg.of_grown hg14) (fun k hk e => by have h1 := HSZ.out; have h2 : _ ≤ k := hk; cases e; omega)))
          have D := Lib.hid (D.out.pick hR14 hg14)
          have KB := Lib.hid (And.intro k1 (And.intro k2 k5))
          have hs12 := Nat.le_trans HSA.out HSB.out
          clear hR14 hg14 k1 k2 k5 KG HS
          have r0 := D.out.z2.r0
          have r1 := D.out.z2.r1
          have r2 := D.out.z2.r2
          have r3 := D.out.z2.r3
          have r4 := D.out.z2.r4
          have r5 := D.out.z2.r5
          have fr := D.out.z2.fr
          have q0 := D.out.z3.r0
          have q1 := D.out.z3.r1
          have q2 := D.out.z3.r2
          have q3 := D.out.z3.r3
          have q4 := D.out.z3.r4
          have q5 := D.out.z3.r5
          have fq := D.out.z3.fr
          go_wp2
          refine bodyPost_ret (v := .tuple #[.agg #[.int .i64 f2.pub, .int .i64 f2.len, .int .i64 f2.dig, .int .i64 f2.sign, .slice a7 f2.bs.length c7, .slice a8 f2.hv.length c8], .agg #[.int .i64 g2.pub, .int .i64 g2.len, .int .i64 g2.dig, .int .i64 g2.sign, .slice b7 g2.bs.length d7, .slice b8 g2.hv.length d8]]) (by simp [results, Try.results41, go_sem, r0, r1, r2, r3, r4, r5, q0, q1, q2, q3, q4, q5]) rfl ?_
          exact fkp_of f2 g2 (by have := HSZ.out; omega) KA.out.1 KA.out.2 (KB.out.1.sub (fun k _ hk => Nat.le_trans hs12 hk)) (KB.out.2.1.sub (fun k _ hk => Nat.le_trans hs12 hk)) KZ.out KB.out.2.2 D.out.be
        · have d3 : (m3 == 0) = false := by rw [beq_eq_false_iff_ne]; exact c3
          have HSZ := Lib.hid (And.intro D.out.hr (Nat.lt_of_lt_of_le D.out.rd.1 D.out.rd.2.1))
          go_wp2_with fail
          refine (spoilt_d _ r _ f _ _ _ D.out.rd (by omega) KR.out.1 KR.out.2 KL.out.1 KL.out.2.1 KL.out.2.2).mono ?_
          rintro e w12 ⟨f2, vb, vh, rfl, k1, k2, -, -, k5, hR12, hg12⟩
          obtain ⟨a7, c7, rfl, -, -⟩ := k1.shape
          obtain ⟨a8, c8, rfl, -, -⟩ := k2.shape
          have HSA := Lib.hid hg12.size
          have D := Lib.hid (D.out.pick hR12 hg12)
          have KA := Lib.hid (And.intro k1 k2)
          have KZ := Lib.hid k5
          clear hR12 hg12 k1 k2 k5 KR KL x0 x1 x2 x3 x4 x5
          go_wp2_with fail
          refine (reader_d _ r _ s _ _ _ D.out.rd (by omega) D.out.rx HS.out.2.2.1 HS.out.2.2.2).mono ?_
          rintro e w13 ⟨g, vb, vh, rfl, k1, k2, k3', k4, k5, hR13, hg13⟩
          obtain ⟨a9, c9, rfl, -, -⟩ := k1.shape
          obtain ⟨b6, d6, rfl, -, -⟩ := k2.shape
          have D := Lib.hid (D.out.pick hR13 hg13)
          have KA := Lib.hid (And.intro (KA.out.1.chg (Chg.of_grown hg13) (fun k hk e => by have h1 := HSZ.out; have h2 : _ ≤ k := hk; cases e; omega)) (KA.out.2.chg (Chg.of_grown hg13) (fun k hk e => by have h1 := HSZ.out; have h2 : _ ≤ k := hk; cases e; omega)))
          have KG := Lib.hid (And.intro k1 (And.intro k2 (And.intro k3' (And.intro k4 k5))))
          have HSB := Lib.hid hg13.size
          clear hR13 hg13 k1 k2 k3' k4 k5 hne
          go_wp2_with fail
          refine (spoilt_d _ r _ g _ _ _ D.out.rd (by omega) KG.out.1 KG.out.2.1 KG.out.2.2.1 KG.out.2.2.2.1 KG.out.2.2.2.2).mono ?_
          rintro e w14 ⟨g2, vb, vh, rfl, k1, k2, -, -, k5, hR14, hg14⟩
          obtain ⟨b7, d7, rfl, -, -⟩ := k1.shape
          obtain ⟨b8, d8, rfl, -, -⟩ := k2.shape
          have KA := Lib.hid (And.intro (KA.out.1.chg (Chg.of_grown hg14) (fun k hk e => by have h1 := HSZ.out; have h2 : _ ≤ k := hk; cases e; omega)) (KA.out.2.chg (Chg.of_grown hg14) (fun k hk e => by have h1 := HSZ.out; have h2 : _ ≤ k := hk; cases e; omega)))
          have D := Lib.hid (D.out.pick hR14 hg14)
          have KB := Lib.hid (And.intro k1 (And.intro k2 k5))
          have hs12 := Nat.le_trans HSA.out HSB.out
          clear hR14 hg14 k1 k2 k5 KG HS
          have r0 := D.out.z2.r0
          have r1 := D.out.z2.r1
          have r2 := D.out.z2.r2
          have r3 := D.out.z2.r3
          have r4 := D.out.z2.r4
          have r5 := D.out.z2.r5
          have fr := D.out.z2.fr
          have q0 := D.out.z3.r0
          have q1 := D.out.z3.r1
          have q2 := D.out.z3.r2
          have q3 := D.out.z3.r3
          have q4 := D.out.z3.r4
          have q5 := D.out.z3.r5
          have fq := D.out.z3.fr
          go_wp2
          refine bodyPost_ret (v := .tuple #[.agg #[.int .i64 f2.pub, .int .i64 f2.len, .int .i64 f2.dig, .int .i64 f2.sign, .slice a7 f2.bs.length c7, .slice a8 f2.hv.length c8], .agg #[.int .i64 g2.pub, .int .i64 g2.len, .int .i64 g2.dig, .int .i64 g2.sign, .slice b7 g2.bs.length d7, .slice b8 g2.hv.length d8]]) (by simp [results, Try.results41, go_sem, r0, r1, r2, r3, r4, r5, q0, q1, q2, q3, q4, q5]) rfl ?_
          exact fkp_of f2 g2 (by have := HSZ.out; omega) KA.out.1 KA.out.2 (KB.out.1.sub (fun k _ hk => Nat.le_trans hs12 hk)) (KB.out.2.1.sub (fun k _ hk => Nat.le_trans hs12 hk)) KZ.out KB.out.2.2 D.out.be
      · have d2 : (m2 == 0) = false := by rw [beq_eq_false_iff_ne]; exact c2
        go_upto_region 9 with (fail)
        have HRB := Lib.hid (Nat.lt_of_lt_of_le D.out.rd.1 D.out.rd.2.1)
        go_wp2_with fail
        refine (reader_d _ r _ s _ bs _ D.out.rd (by omega) D.out.rv HS.out.1 HS.out.2.1).mono ?_
        rintro e w8 ⟨f, vb, vh, rfl, k1, k2, k3', k4, k5, hR8, hg8⟩
        obtain ⟨a5, c5, rfl, -, -⟩ := k1.shape
        obtain ⟨a6, c6, rfl, -, -⟩ := k2.shape
        have D := Lib.hid (D.out.pick hR8 hg8)
        have HRW8 := Lib.hid (Nat.lt_of_lt_of_le hR8.1 hR8.2.1)
        have KL := Lib.hid (And.intro k3' (And.intro k4 k5))
        have KR := Lib.hid (And.intro k1 k2)
        clear hR8 hg8 k1 k2 k3' k4 k5
        obtain ⟨W9, hW9⟩ : ∃ W9, W9 = w8.alloc (.cells #[.int .i64 f.pub, .int .i64 f.len, .int .i64 f.dig, .int .i64 f.sign, .slice a5 f.bs.length c5, .slice a6 f.hv.length c6] 39) := ⟨_, rfl⟩
        have hb9 : Below w8.heap.size w8 W9 := by rw [hW9]; (repeat' (first | exact Below.refl _ _ | assumption | refine Below.drew ?_ | refine below_drewN ?_ _ | refine Below.alloc ?_ (by omega) _ | refine Below.alloc ?_ (by simp; omega) _ | refine Below.alloc ?_ (by simp) _ | refine Below.setCell ?_ (by omega) _ | refine Below.setCell ?_ (by simp; omega) _ | refine Below.setCell ?_ (by simp) _))
        have D := Lib.hid (D.out.below hb9)
        have KR := Lib.hid (And.intro (KR.out.1.below hb9) (KR.out.2.below hb9))
        have hlt9 : w8.heap.size < W9.heap.size := by rw [hW9]; simp
        have x0 : W9.cell? ⟨w8.heap.size, 0, none⟩ = some (.int .i64 f.pub) := by rw [hW9]; exact cell_new rfl rfl
        have x1 : W9.cell? ⟨w8.heap.size, 1, none⟩ = some (.int .i64 f.len) := by rw [hW9]; exact cell_new rfl rfl
        have x2 : W9.cell? ⟨w8.heap.size, 2, none⟩ = some (.int .i64 f.dig) := by rw [hW9]; exact cell_new rfl rfl
        have x3 : W9.cell? ⟨w8.heap.size, 3, none⟩ = some (.int .i64 f.sign) := by rw [hW9]; exact cell_new rfl rfl
        have x4 : W9.cell? ⟨w8.heap.size, 4, none⟩ = some (.slice a5 f.bs.length c5) := by rw [hW9]; exact cell_new rfl rfl
        have x5 : W9.cell? ⟨w8.heap.size, 5, none⟩ = some (.slice a6 f.hv.length c6) := by rw [hW9]; exact cell_new rfl rfl
        clear hb9
        go_upto_region 10 with (fail)
        rw [← hW9]
        clear hW9
        go_wp2_with fail
        refine (pick_c _ r _ 10 _ D.out.rd (by omega)).mono ?_
        rintro e w10 ⟨m3, rfl, hm30, -, hR10, hg10⟩
        have D := Lib.hid (D.out.pick hR10 hg10)
        have hne : some w8.heap.size ≠ some r := by have := HRW8.out; simp; omega
        have KR := Lib.hid (And.intro (KR.out.1.chg (Chg.of_grown hg10) (fun k hk e => by have h1 := HRB.out; have h2 : _ ≤ k := hk; cases e; omega)) (KR.out.2.chg (Chg.of_grown hg10) (fun k hk e => by have h1 := HRB.out; have h2 : _ ≤ k := hk; cases e; omega)))
        have x0 := grown_cell hg10 x0 hne
        have x1 := grown_cell hg10 x1 hne
        have x2 := grown_cell hg10 x2 hne
        have x3 := grown_cell hg10 x3 hne
        have x4 := grown_cell hg10 x4 hne
        have x5 := grown_cell hg10 x5 hne
        clear hR10 hg10 hm30
        by_cases c3 : m3 = 0
        · subst c3
          go_wp2_with fail
          refine (good_c _ r _ _ D.out.rd (by omega)).mono ?_
          rintro e w11 ⟨s2, rfl, -, -, hR11, hg11⟩
          have D := Lib.hid (D.out.pick hR11 hg11)
          have KR := Lib.hid (And.intro (KR.out.1.chg (Chg.of_grown hg11) (fun k hk e => by have h1 := HRB.out; have h2 : _ ≤ k := hk; cases e; omega)) (KR.out.2.chg (Chg.of_grown hg11) (fun k hk e => by have h1 := HRB.out; have h2 : _ ≤ k := hk; cases e; omega)))
          have x0 := grown_cell hg11 x0 hne
          have x1 := grown_cell hg11 x1 hne
          have x2 := grown_cell hg11 x2 hne
          have x3 := grown_cell hg11 x3 hne
          have x4 := grown_cell hg11 x4 hne
          have x5 := grown_cell hg11 x5 hne
          clear hR11 hg11
          have HSZ := Lib.hid (And.intro D.out.hr (Nat.lt_of_lt_of_le D.out.rd.1 D.out.rd.2.1))
          go_wp2_with fail
          refine (spoilt_d _ r _ f _ _ _ D.out.rd (by omega) KR.out.1 KR.out.2 KL.out.1 KL.out.2.1 KL.out.2.2).mono ?_
          rintro e w12 ⟨f2, vb, vh, rfl, k1, k2, -, -, k5, hR12, hg12⟩
          obtain ⟨a7, c7, rfl, -, -⟩ := k1.shape
          obtain ⟨a8, c8, rfl, -, -⟩ := k2.shape
          have HSA := Lib.hid hg12.size
          have D := Lib.hid (D.out.pick hR12 hg12)
          have KA := Lib.hid (And.intro k1 k2)
          have KZ := Lib.hid k5
          clear hR12 hg12 k1 k2 k5 KR KL x0 x1 x2 x3 x4 x5
          go_wp2_with fail
          refine (reader_d _ r _ s2 _ _ _ D.out.rd (by omega) D.out.rx HS.out.2.2.1 HS.out.2.2.2).mono ?_
          rintro e w13 ⟨g, vb, vh, rfl, k1, k2, k3', k4, k5, hR13, hg13⟩
          obtain ⟨a9, c9, rfl, -, -⟩ := k1.shape
          obtain ⟨b6, d6, rfl, -, -⟩ := k2.shape
          have D := Lib.hid (D.out.pick hR13 hg13)
          have KA := Lib.hid (And.intro (KA.out.1.chg (Chg.of_grown hg13) (fun k hk e => by have h1 := HSZ.out; have h2 : _ ≤ k := hk; cases e; omega)) (KA.out.2.chg (Chg.of_grown hg13) (fun k hk e => by have h1 := HSZ.out; have h2 : _ ≤ k := hk; cases e; omega)))
          have KG := Lib.hid (And.intro k1 (And.intro k2 (And.intro k3' (And.intro k4 k5))))
          have HSB := Lib.hid hg13.size
          clear hR13 hg13 k1 k2 k3' k4 k5 hne
          go_wp2_with fail
          refine (spoilt_d _ r _ g _ _ _ D.out.rd (by omega) KG.out.1 KG.out.2.1 KG.out.2.2.1 KG.out.2.2.2.1 KG.out.2.2.2.2).mono ?_
          rintro e w14 ⟨g2, vb, vh, rfl, k1, k2, -, -, k5, hR14, hg14⟩
          obtain ⟨b7, d7, rfl, -, -⟩ := k1.shape
          obtain ⟨b8, d8, rfl, -, -⟩ := k2.shape
          have KA := Lib.hid (And.intro (KA.out.1.chg (Chg.of_grown hg14) (fun k hk e => by have h1 := HSZ.out; have h2 : _ ≤ k := hk; cases e; omega)) (KA.out.2.chg (Chg.of_grown hg14) (fun k hk e => by have h1 := HSZ.out; have h2 : _ ≤ k := hk; cases e; omega)))
          have D := Lib.hid (D.out.pick hR14 hg14)
          have KB := Lib.hid (And.intro k1 (And.intro k2 k5))
          have hs12 := Nat.le_trans HSA.out HSB.out
          clear hR14 hg14 k1 k2 k5 KG HS
          have r0 := D.out.z2.r0
          have r1 := D.out.z2.r1
          have r2 := D.out.z2.r2
          have r3 := D.out.z2.r3
          have r4 := D.out.z2.r4
          have r5 := D.out.z2.r5
          have fr := D.out.z2.fr
          have q0 := D.out.z3.r0
          have q1 := D.out.z3.r1
          have q2 := D.out.z3.r2
          have q3 := D.out.z3.r3
          have q4 := D.out.z3.r4
          have q5 := D.out.z3.r5
          have fq := D.out.z3.fr
          go_wp2
          refine bodyPost_ret (v := .tuple #[.agg #[.int .i64 f2.pub, .int .i64 f2.len, .int .i64 f2.dig, .int .i64 f2.sign, .slice a7 f2.bs.length c7, .slice a8 f2.hv.length c8], .agg #[.int .i64 g2.pub, .int .i64 g2.len, .int .i64 g2.dig, .int .i64 g2.sign, .slice b7 g2.bs.length d7, .slice b8 g2.hv.length d8]]) (by simp [results, Try.results41, go_sem, r0, r1, r2, r3, r4, r5, q0, q1, q2, q3, q4, q5]) rfl ?_
          exact fkp_of f2 g2 (by have := HSZ.out; omega) KA.out.1 KA.out.2 (KB.out.1.sub (fun k _ hk => Nat.le_trans hs12 hk)) (KB.out.2.1.sub (fun k _ hk => Nat.le_trans hs12 hk)) KZ.out KB.out.2.2 D.out.be
        · have d3 : (m3 == 0) = false := by rw [beq_eq_false_iff_ne]; exact c3
          have HSZ := Lib.hid (And.intro D.out.hr (Nat.lt_of_lt_of_le D.out.rd.1 D.out.rd.2.1))
          go_wp2_with fail
          refine (spoilt_d _ r _ f _ _ _ D.out.rd (by omega) KR.out.1 KR.out.2 KL.out.1 KL.out.2.1 KL.out.2.2).mono ?_
          rintro e w12 ⟨f2, vb, vh, rfl, k1, k2, -, -, k5, hR12, hg12⟩
          obtain ⟨a7, c7, rfl, -, -⟩ := k1.shape
          obtain ⟨a8, c8, rfl, -, -⟩ := k2.shape
          have HSA := Lib.hid hg12.size
          have D := Lib.hid (D.out.pick hR12 hg12)
          have KA := Lib.hid (And.intro k1 k2)
          have KZ := Lib.hid k5
          clear hR12 hg12 k1 k2 k5 KR KL x0 x1 x2 x3 x4 x5
          go_wp2_with fail
          refine (reader_d _ r _ s _ _ _ D.out.rd (by omega) D.out.rx HS.out.2.2.1 HS.out.2.2.2).mono ?_
          rintro e w13 ⟨g, vb, vh, rfl, k1, k2, k3', k4, k5, hR13, hg13⟩
          obtain ⟨a9, c9, rfl, -, -⟩ := k1.shape
          obtain ⟨b6, d6, rfl, -, -⟩ := k2.shape
          have D := Lib.hid (D.out.pick hR13 hg13)
          have KA := Lib.hid (And.intro (KA.out.1.chg (Chg.of_grown hg13) (fun k hk e => by have h1 := HSZ.out; have h2 : _ ≤ k := hk; cases e; omega)) (KA.out.2.chg (Chg.of_grown hg13) (fun k hk e => by have h1 := HSZ.out; have h2 : _ ≤ k := hk; cases e; omega)))
          have KG := Lib.hid (And.intro k1 (And.intro k2 (And.intro k3' (And.intro k4 k5))))
          have HSB := Lib.hid hg13.size
          clear hR13 hg13 k1 k2 k3' k4 k5 hne
          go_wp2_with fail
          refine (spoilt_d _ r _ g _ _ _ D.out.rd (by omega) KG.out.1 KG.out.2.1 KG.out.2.2.1 KG.out.2.2.2.1 KG.out.2.2.2.2).mono ?_
          rintro e w14 ⟨g2, vb, vh, rfl, k1, k2, -, -, k5, hR14, hg14⟩
          obtain ⟨b7, d7, rfl, -, -⟩ := k1.shape
          obtain ⟨b8, d8, rfl, -, -⟩ := k2.shape
          have KA := Lib.hid (And.intro (KA.out.1.chg (Chg.of_grown hg14) (fun k hk e => by have h1 := HSZ.out; have h2 : _ ≤ k := hk; cases e; omega)) (KA.out.2.chg (Chg.of_grown hg14) (fun k hk e => by have h1 := HSZ.out; have h2 : _ ≤ k := hk; cases e; omega)))
          have D := Lib.hid (D.out.pick hR14 hg14)
          have KB := Lib.hid (And.intro k1 (And.intro k2 k5))
          have hs12 := Nat.le_trans HSA.out HSB.out
          clear hR14 hg14 k1 k2 k5 KG HS
          have r0 := D.out.z2.r0
          have r1 := D.out.z2.r1
          have r2 := D.out.z2.r2
          have r3 := D.out.z2.r3
          have r4 := D.out.z2.r4
          have r5 := D.out.z2.r5
          have fr := D.out.z2.fr
          have q0 := D.out.z3.r0
          have q1 := D.out.z3.r1
          have q2 := D.out.z3.r2
          have q3 := D.out.z3.r3
          have q4 := D.out.z3.r4
          have q5 := D.out.z3.r5
          have fq := D.out.z3.fr
          go_wp2
          refine bodyPost_ret (v := .tuple #[.agg #[.int .i64 f2.pub, .int .i64 f2.len, .int .i64 f2.dig, .int .i64 f2.sign, .slice a7 f2.bs.length c7, .slice a8 f2.hv.length c8], .agg #[.int .i64 g2.pub, .int .i64 g2.len, .int .i64 g2.dig, .int .i64 g2.sign, .slice b7 g2.bs.length d7, .slice b8 g2.hv.length d8]]) (by simp [results, Try.results41, go_sem, r0, r1, r2, r3, r4, r5, q0, q1, q2, q3, q4, q5]) rfl ?_
          exact fkp_of f2 g2 (by have := HSZ.out; omega) KA.out.1 KA.out.2 (KB.out.1.sub (fun k _ hk => Nat.le_trans hs12 hk)) (KB.out.2.1.sub (fun k _ hk => Nat.le_trans hs12 hk)) KZ.out KB.out.2.2 D.out.be
end Go.Proofs.Ytbjndbaljenlgaa
