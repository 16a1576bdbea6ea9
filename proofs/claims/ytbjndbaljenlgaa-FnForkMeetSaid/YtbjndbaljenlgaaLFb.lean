/- The walk of the law FnFeedPart. -/
import Derived.Test.YtbjndbaljenlgaaDv
import Derived.Test.YtbjndbaljenlgaaFpP
namespace Go.Proofs.Ytbjndbaljenlgaa
open Go.RowKit
set_option linter.unusedSimpArgs false
/-- block b holds a feed -/
structure Bx (W : World) (b : Nat) (p len dig sign : Int) (vb vh : Value) : Prop where
  x0 : W.cell? ⟨b, 0, none⟩ = some (.int .i64 p)
  x1 : W.cell? ⟨b, 1, none⟩ = some (.int .i64 len)
  x2 : W.cell? ⟨b, 2, none⟩ = some (.int .i64 dig)
  x3 : W.cell? ⟨b, 3, none⟩ = some (.int .i64 sign)
  x4 : W.cell? ⟨b, 4, none⟩ = some (vb)
  x5 : W.cell? ⟨b, 5, none⟩ = some (vh)
  fx : ∀ o, W.frozen? ⟨b, o, none⟩ = false
section
variable {W W' : World} {b : Nat} {p len dig sign : Int} {vb vh : Value} {row : Option Nat}
theorem Bx.moved (f : Bx W b p len dig sign vb vh) (hg : W.grownBy W' row) (h1 : some b ≠ row) : Bx W' b p len dig sign vb vh :=
  ⟨grown_cell hg f.x0 h1, grown_cell hg f.x1 h1, grown_cell hg f.x2 h1, grown_cell hg f.x3 h1, grown_cell hg f.x4 h1, grown_cell hg f.x5 h1, fun o => (grown_frozen (a := ⟨b, o, none⟩) hg (by have := World.block_lt_of_cell? _ _ f.x0; exact this) h1).trans (f.fx o)⟩
theorem Bx.lt (f : Bx W b p len dig sign vb vh) : b < W.heap.size := by have := World.block_lt_of_cell? _ _ f.x0; exact this
theorem Bx.below (f : Bx W b p len dig sign vb vh) (hb : Below W.heap.size W W') : Bx W' b p len dig sign vb vh := f.moved (below_grown hb none) (by simp)
theorem Bx.setO {k j : Nat} {u : Value} (f : Bx W b p len dig sign vb vh) (hn : b ≠ k) : Bx (W.setCell ⟨k, j, none⟩ u) b p len dig sign vb vh := f.moved (grown_set (World.grownBy.refl _ _)) (by simp; exact hn)
theorem Bx.set4 (f : Bx W b p len dig sign vb vh) (v : Value) : Bx (W.setCell ⟨b, 4, none⟩ v) b p len dig sign v vh :=
  ⟨setc f.x0 (.inr (by omega)), setc f.x1 (.inr (by omega)), setc f.x2 (.inr (by omega)), setc f.x3 (.inr (by omega)), seto f.x4, setc f.x5 (.inr (by omega)), fun o => by rw [World.frozen?_setCell]; exact f.fx o⟩
theorem Bx.set5 (f : Bx W b p len dig sign vb vh) (v : Value) : Bx (W.setCell ⟨b, 5, none⟩ v) b p len dig sign vb v :=
  ⟨setc f.x0 (.inr (by omega)), setc f.x1 (.inr (by omega)), setc f.x2 (.inr (by omega)), setc f.x3 (.inr (by omega)), setc f.x4 (.inr (by omega)), seto f.x5, fun o => by rw [World.frozen?_setCell]; exact f.fx o⟩
theorem Bx.new (w : World) (t : TypeId) : Bx (w.alloc (.cells #[.int .i64 p, .int .i64 len, .int .i64 dig, .int .i64 sign, vb, vh] t)) w.heap.size p len dig sign vb vh :=
  ⟨cell_new rfl rfl, cell_new rfl rfl, cell_new rfl rfl, cell_new rfl rfl, cell_new rfl rfl, cell_new rfl rfl, fun _ => frozen_new rfl⟩
end
theorem own_nn {w : World} {base : Nat} {e : TypeId} {sz n : Nat} {v : Value} {xs : List Value} (h : w.ownsRow base e sz v n xs) (hn : n ≠ 0) : ∃ g cap, v = .slice (some ⟨g, 0, none⟩) n cap ∧ base ≤ g ∧ n ≤ cap ∧ cap ≤ maxLen := by
  rcases own_cases h with ⟨-, h0, -⟩ | ⟨g, cap, h1, h2, h3, h4, h5⟩
  · omega
  · exact ⟨g, cap, h1, h2, h4, h5⟩
theorem encB_set (hv : List Bool) (q : Nat) (x : Bool) : (encB hv).set q (.bool x) = encB (hv.set q x) := by simp [encB, List.map_set]
set_option maxRecDepth 100000 in
set_option maxHeartbeats 3200000 in
theorem lawFnFeedPart_c (w : World) (v : Value) (n : Nat) (h : RdB w v n) (u : Value) (m : Nat) (hu : RdB w u m) : Calls Try.prog 8 #[v, u] w fun e w' => e = .returned (.bool true) ∧ Below w.heap.size w w' := by
  have H := Lib.hid h
  obtain ⟨a, cap, rfl, h1, h2, h3⟩ := h
  unfold maxLen at h2
  clear h3
  obtain ⟨a', cap', rfl, h4, h5, h6⟩ := hu
  unfold maxLen at h5
  clear h6
  by_cases hl : (n : Int) > 1048576
  · go_enter Try.func8, Try.ntmps8
    go_wp2
    go_ret
    exact ⟨rfl, Below.refl _ _⟩
  · by_cases hm : (m : Int) > 1048576
    · go_enter Try.func8, Try.ntmps8
      go_wp2
      go_ret
      exact ⟨rfl, Below.refl _ _⟩
    · go_enter Try.func8, Try.ntmps8
      go_wp2_with fail
      refine (drawFeedValid_c _ n _ H.out).mono ?_
      rintro e w1 ⟨f, vb, vh, rfl, k1, k2, hbn, hhn, -, hb1⟩
      obtain ⟨a1, c1, rfl, g1, g2⟩ := k1.shape
      obtain ⟨a2, c2, rfl, g3, g4⟩ := k2.shape
      have IMP := Lib.hid (fun W (hW : Below w1.heap.size w1 W) => impFv_c f _ _ W (k1.below hW).rd (k2.below hW).rd)
      have SPC := Lib.hid (fun W (hW : Below w1.heap.size w1 W) => specFv_c f _ _ W (k1.below hW).rd (k2.below hW).rd)
      have FVF := Lib.hid (fun h : fv f = true => fv_iff.1 h)
      have K1 := Lib.hid (fun W (hW : Below w1.heap.size w1 W) => k1.below hW)
      have K2 := Lib.hid (fun W (hW : Below w1.heap.size w1 W) => k2.below hW)
      unfold maxLen at g2 g4
      clear k1 k2
      obtain ⟨p, len, dig, sign, bs, hv⟩ := f
      dsimp only at *
      have FG := Lib.hid (fun (h : fv ⟨p, len, dig, sign, bs, hv⟩ = true) k (hk : k < bs.length) => forgot_fv (f := ⟨p, len, dig, sign, bs, hv⟩) (k := k) hk h)
      obtain ⟨q, hq⟩ : ∃ q, fv ⟨p, len, dig, sign, bs, hv⟩ = q := ⟨_, rfl⟩
      rw [hq] at IMP SPC FVF FG
      have HQ := Lib.hid (fun (_ : True) => hq)
      clear hq
      obtain ⟨W1, hW1⟩ : ∃ W1, W1 = w1.alloc (.cells #[.int .i64 p, .int .i64 len, .int .i64 dig, .int .i64 sign, .slice a1 bs.length c1, .slice a2 hv.length c2] 39) := ⟨_, rfl⟩
      have hbW1 : Below w1.heap.size w1 W1 := by rw [hW1]; (repeat' (first | exact Below.refl _ _ | assumption | refine Below.drew ?_ | refine below_drewN ?_ _ | refine Below.alloc ?_ (by omega) _ | refine Below.alloc ?_ (by simp; omega) _ | refine Below.alloc ?_ (by simp) _ | refine Below.setCell ?_ (by omega) _ | refine Below.setCell ?_ (by simp; omega) _ | refine Below.setCell ?_ (by simp) _))
      have X := Lib.hid (show Bx W1 w1.heap.size p len dig sign (.slice a1 bs.length c1) (.slice a2 hv.length c2) by rw [hW1]; exact Bx.new _ _)
      have HB0 := Lib.hid hb1
      have HB := Lib.hid (hb1.trans (hbW1.mono hb1.size))
      have D := Lib.hid hbW1
      clear hb1 hbW1 H
      have x0 := X.out.x0
      have x1 := X.out.x1
      have x2 := X.out.x2
      have x3 := X.out.x3
      have x4 := X.out.x4
      have x5 := X.out.x5
      go_upto_region 4 with (fail)
      rw [← hW1]
      clear hW1
      go_wp2_with fail
      refine (IMP.out _ D.out).mono ?_
      rintro e w2 ⟨rfl, hb2⟩
      have X := Lib.hid (X.out.below hb2)
      have HB := Lib.hid (HB.out.trans (hb2.mono HB.out.size))
      have D := Lib.hid (D.out.trans (hb2.mono D.out.size))
      clear hb2 x0 x1 x2 x3 x4 x5
      have x0 := X.out.x0
      have x1 := X.out.x1
      have x2 := X.out.x2
      have x3 := X.out.x3
      have x4 := X.out.x4
      have x5 := X.out.x5
      go_wp2_with fail
      refine (SPC.out _ D.out).mono ?_
      rintro e w3 ⟨rfl, hb3⟩
      have X := Lib.hid (X.out.below hb3)
      have HB := Lib.hid (HB.out.trans (hb3.mono HB.out.size))
      have D := Lib.hid (D.out.trans (hb3.mono D.out.size))
      clear hb3 x0 x1 x2 x3 x4 x5
      have x0 := X.out.x0
      have x1 := X.out.x1
      have x2 := X.out.x2
      have x3 := X.out.x3
      have x4 := X.out.x4
      have x5 := X.out.x5
      cases q
      · go_wp2
        go_ret
        exact ⟨rfl, HB.out⟩
      · by_cases h0 : bs.length = 0
        · have h0' : ((bs.length : Int) == 0) = true := by simp [h0]
          go_wp2
          go_ret
          exact ⟨rfl, HB.out⟩
        · have h0' : ((bs.length : Int) == 0) = false := by rw [beq_eq_false_iff_ne]; omega
          obtain ⟨k, hk1, hk2⟩ : ∃ k : Nat, (m : Int).tmod (bs.length : Int) = (k : Int) ∧ k < bs.length := ⟨m % bs.length, by rw [Int.tmod_eq_emod_of_nonneg (by omega)]; rfl, Nat.mod_lt _ (by omega)⟩
          have hk3 : IntKind.i64.wrap (k : Int) = (k : Int) := IntWalk.i64_in _ (by omega)
          have hk2i : (k : Int) < (bs.length : Int) := by omega
          have hN : ¬ (bs.length : Int) = 0 := by omega
          have HHL : Hid (hv.length = bs.length) := Lib.hid (by have := FVF.out rfl; have h3 := this.2.2.1; have h4 := this.2.2.2.1; dsimp only at h3 h4; omega)
          have FGK := Lib.hid (FG.out rfl k hk2)
          go_upto_region 9 with (fail)
          obtain ⟨W4, hW4⟩ : ∃ W4, W4 = w3.alloc (.cells #[.int .i64 p, .int .i64 len, .int .i64 dig, .int .i64 sign, .slice a1 bs.length c1, .slice a2 hv.length c2] 39) := ⟨_, rfl⟩
          have hb34 : Below w3.heap.size w3 W4 := by rw [hW4]; (repeat' (first | exact Below.refl _ _ | assumption | refine Below.drew ?_ | refine below_drewN ?_ _ | refine Below.alloc ?_ (by omega) _ | refine Below.alloc ?_ (by simp; omega) _ | refine Below.alloc ?_ (by simp) _ | refine Below.setCell ?_ (by omega) _ | refine Below.setCell ?_ (by simp; omega) _ | refine Below.setCell ?_ (by simp) _))
          have Y := Lib.hid (show Bx W4 w3.heap.size p len dig sign (.slice a1 bs.length c1) (.slice a2 hv.length c2) by rw [hW4]; exact Bx.new _ _)
          have hsz4 : W4.heap.size = w3.heap.size + 1 := by rw [hW4]; simp
          have D4 := Lib.hid (D.out.trans (hb34.mono D.out.size))
          have X4 := Lib.hid (X.out.below hb34)
          have HS4 := Lib.hid hsz4
          clear hsz4
          go_upto_region 10 with (fail)
          rw [← hW4]
          clear hW4 x0 x1 x2 x3 x4 x5
          have x4 := X4.out.x4
          obtain ⟨W5, hW5⟩ : ∃ W5, W5 = W4.alloc (.cells #[] 9) := ⟨_, rfl⟩
          have hb45 : Below W4.heap.size W4 W5 := by rw [hW5]; (repeat' (first | exact Below.refl _ _ | assumption | refine Below.drew ?_ | refine below_drewN ?_ _ | refine Below.alloc ?_ (by omega) _ | refine Below.alloc ?_ (by simp; omega) _ | refine Below.alloc ?_ (by simp) _ | refine Below.setCell ?_ (by omega) _ | refine Below.setCell ?_ (by simp; omega) _ | refine Below.setCell ?_ (by simp) _))
          have hown0 : W5.ownsRow W4.heap.size 9 1 (.slice (some ⟨W4.heap.size, 0, none⟩) 0 0) 0 [] := by rw [hW5]; exact own_empty W4 W4.heap.size 9 1 (Nat.le_refl _)
          have D5 := Lib.hid (D4.out.trans (hb45.mono D4.out.size))
          have x4b : (W4.alloc (.cells #[] 9)).cell? ⟨w1.heap.size, 4, none⟩ = some (.slice a1 bs.length c1) := cell_keep ((Below.refl _ _).alloc (Nat.le_refl _) _) x4
          have HZ5 := Lib.hid hb45.size
          go_wp2_with (at_builtin; go_loud (rw [← hW5]; refine wpList_appRow _ rfl _ _ 36 rfl W4.heap.size 9 Try.underlying36 (.string ByteArray.empty) 16 info_string rfl (by omega) _ 0 [] rfl hown0 _ bs.length (encS bs) rfl (K1.out _ D5.out) (encS_one bs) (by omega) (by omega) HZ5.out ?_))
          intro v6 w6 ho6 hg6
          have ho6 : w6.ownsRow W4.heap.size 9 1 v6 bs.length (encS bs) := by simpa using ho6
          have hg6 : W5.grownBy w6 (some W4.heap.size) := by rw [hW5]; exact hg6
          clear hW5 x4b
          obtain ⟨g, c6, rfl, hg6b, hc6, hc6'⟩ := own_nn ho6 h0
          unfold maxLen at hc6'
          have Y6 := Lib.hid ((Y.out.below hb45).moved hg6 (by have := HS4.out; simp; omega))
          have X6 := Lib.hid ((X4.out.below hb45).moved hg6 (by have := HS4.out; have := X.out.lt; simp; omega))
          have D6 := Lib.hid (show Below w1.heap.size w1 w6 from D5.out.grown hg6 D5.out.size (fun k hk => by cases hk; exact D4.out.size))
          have HS6 := Lib.hid (show W4.heap.size < w6.heap.size by have := (own_block ho6 g rfl).2; omega)
          have O6 := Lib.hid ho6
          clear ho6 hg6 hb45 x4 hown0
          have y4 := Y6.out.x4
          have fy := Y6.out.fx 4
          go_upto_region 11 with (fail)
          obtain ⟨W7, hW7⟩ : ∃ W7, W7 = w6.setCell ⟨w3.heap.size, 4, none⟩ (.slice (some ⟨g, 0, none⟩) bs.length c6) := ⟨_, rfl⟩
          rw [← hW7]
          have hg67 : w6.grownBy W7 (some w3.heap.size) := by rw [hW7]; exact grown_set (World.grownBy.refl _ _)
          have Y7 := Lib.hid (show Bx W7 w3.heap.size p len dig sign (.slice (some ⟨g, 0, none⟩) bs.length c6) (.slice a2 hv.length c2) by rw [hW7]; exact Y6.out.set4 _)
          have X7 := Lib.hid (X6.out.moved hg67 (by have := X.out.lt; simp; omega))
          have O7 := Lib.hid (own_kept_r O6.out hg67 (by have := HS4.out; omega))
          have D7 := Lib.hid (show Below w1.heap.size w1 W7 from D6.out.grown hg67 D6.out.size (fun k hk => by cases hk; exact D.out.size))
          have HS7 := Lib.hid (show W4.heap.size < W7.heap.size by rw [hW7]; simpa using HS6.out)
          clear hW7 hg67 y4 fy
          have x5 := X7.out.x5
          obtain ⟨W8, hW8⟩ : ∃ W8, W8 = W7.alloc (.cells #[] 4) := ⟨_, rfl⟩
          have hb78 : Below W7.heap.size W7 W8 := by rw [hW8]; (repeat' (first | exact Below.refl _ _ | assumption | refine Below.drew ?_ | refine below_drewN ?_ _ | refine Below.alloc ?_ (by omega) _ | refine Below.alloc ?_ (by simp; omega) _ | refine Below.alloc ?_ (by simp) _ | refine Below.setCell ?_ (by omega) _ | refine Below.setCell ?_ (by simp; omega) _ | refine Below.setCell ?_ (by simp) _))
          have hown0 : W8.ownsRow W7.heap.size 4 1 (.slice (some ⟨W7.heap.size, 0, none⟩) 0 0) 0 [] := by rw [hW8]; exact own_empty W7 W7.heap.size 4 1 (Nat.le_refl _)
          have D8 := Lib.hid (D7.out.trans (hb78.mono D7.out.size))
          have x5b : (W7.alloc (.cells #[] 4)).cell? ⟨w1.heap.size, 5, none⟩ = some (.slice a2 hv.length c2) := cell_keep ((Below.refl _ _).alloc (Nat.le_refl _) _) x5
          have HZ8 := Lib.hid hb78.size
          go_wp2_with (at_builtin; rw [← hW8]; refine wpList_appRow _ rfl _ _ 37 rfl W7.heap.size 4 Try.underlying37 (.bool false) 1 info_bool rfl (by omega) _ 0 [] rfl hown0 _ hv.length (encB hv) rfl (K2.out _ D8.out) (encB_one hv) (by omega) (by omega) HZ8.out ?_)
          intro v9 w9 ho9 hg9
          have ho9 : w9.ownsRow W7.heap.size 4 1 v9 hv.length (encB hv) := by simpa using ho9
          have hg9 : W8.grownBy w9 (some W7.heap.size) := by rw [hW8]; exact hg9
          clear hW8 x5b
          obtain ⟨g', c9, rfl, hg9b, hc9, hc9'⟩ := own_nn ho9 (by have := HHL.out; omega)
          unfold maxLen at hc9'
          have Y9 := Lib.hid ((Y7.out.below hb78).moved hg9 (by have := HS4.out; have := HS7.out; simp; omega))
          have D9 := Lib.hid (show Below w1.heap.size w1 w9 from D8.out.grown hg9 D8.out.size (fun k hk => by cases hk; exact D7.out.size))
          have O9b := Lib.hid ((own_below O7.out hb78).kept hg9 (.inr (by have := (own_block O7.out g rfl).2; show some g ≠ _; simp; omega)))
          have O9 := Lib.hid ho9
          have HGG := Lib.hid (show g < g' by have := (own_block O7.out g rfl).2; omega)
          have HGW := Lib.hid (show w3.heap.size < g by have := HS4.out; omega)
          clear ho9 hg9 hb78 x5 hown0
          have y5 := Y9.out.x5
          have fy := Y9.out.fx 5
          go_upto_region 12 with (fail)
          obtain ⟨W10, hW10⟩ : ∃ W10, W10 = w9.setCell ⟨w3.heap.size, 5, none⟩ (.slice (some ⟨g', 0, none⟩) hv.length c9) := ⟨_, rfl⟩
          rw [← hW10]
          have hg910 : w9.grownBy W10 (some w3.heap.size) := by rw [hW10]; exact grown_set (World.grownBy.refl _ _)
          have Y10 := Lib.hid (show Bx W10 w3.heap.size p len dig sign (.slice (some ⟨g, 0, none⟩) bs.length c6) (.slice (some ⟨g', 0, none⟩) hv.length c9) by rw [hW10]; exact Y9.out.set5 _)
          have O10b := Lib.hid (own_kept_r O9b.out hg910 (by have := HS4.out; omega))
          have O10 := Lib.hid (own_kept_r O9.out hg910 (by have := HS4.out; have := HS7.out; omega))
          have D10 := Lib.hid (show Below w1.heap.size w1 W10 from D9.out.grown hg910 D9.out.size (fun k hk => by cases hk; exact D.out.size))
          clear hW10 hg910 y5 fy
          have y4 := Y10.out.x4
          have s10 := O10b.out.cellAt k (by omega)
          rw [encS_at bs k hk2] at s10
          have f10 := O10b.out.frozenAt k
          have hkc : k < c6 := by omega
          go_upto_region 13 with (fail)
          obtain ⟨W11, hW11⟩ : ∃ W11, W11 = W10.setCell ⟨g, k, none⟩ (.string { data := #[] }) := ⟨_, rfl⟩
          rw [← hW11]
          have hg11 : W10.grownBy W11 (some g) := by rw [hW11]; exact grown_set (World.grownBy.refl _ _)
          have Y11 := Lib.hid (Y10.out.moved hg11 (by have := HGW.out; simp; omega))
          have O11b := Lib.hid (show W11.ownsRow W4.heap.size 9 1 (.slice (some ⟨g, 0, none⟩) bs.length c6) bs.length (encS (bs.set k ByteArray.empty)) by rw [hW11, ← encS_set]; exact (O10b.out.stored k _).1)
          have O11 := Lib.hid (O10.out.kept hg11 (.inr (by have := HGG.out; show some g' ≠ _; simp; omega)))
          have D11 := Lib.hid (show Below w1.heap.size w1 W11 from D10.out.grown hg11 D10.out.size (fun k hk => by cases hk; have := D.out.size; have := HGW.out; omega))
          clear hW11 hg11 y4 s10 f10 hkc
          have y5 := Y11.out.x5
          have s11 := O11.out.cellAt k (by have := HHL.out; omega)
          rw [encB_at hv k (by have := HHL.out; omega)] at s11
          have f11 := O11.out.frozenAt k
          have hkc : k < c9 := by have := HHL.out; omega
          have hk2h : (k : Int) < (hv.length : Int) := by have := HHL.out; omega
          go_upto_region 14 with (fail)
          obtain ⟨W12, hW12⟩ : ∃ W12, W12 = W11.setCell ⟨g', k, none⟩ (.bool false) := ⟨_, rfl⟩
          rw [← hW12]
          have hg12 : W11.grownBy W12 (some g') := by rw [hW12]; exact grown_set (World.grownBy.refl _ _)
          have Y12 := Lib.hid (Y11.out.moved hg12 (by have := HGW.out; have := HGG.out; simp; omega))
          have O12b := Lib.hid (O11b.out.kept hg12 (.inr (by have := HGG.out; show some g ≠ _; simp; omega)))
          have O12 := Lib.hid (show W12.ownsRow W7.heap.size 4 1 (.slice (some ⟨g', 0, none⟩) hv.length c9) hv.length (encB (hv.set k false)) by rw [hW12, ← encB_set]; exact (O11.out.stored k _).1)
          have D12 := Lib.hid (show Below w1.heap.size w1 W12 from D11.out.grown hg12 D11.out.size (fun k hk => by cases hk; have := D.out.size; have := HGW.out; have := HGG.out; omega))
          clear hW12 hg12 y5 s11 f11 hkc
          have y0 := Y12.out.x0
          have y1 := Y12.out.x1
          have y2 := Y12.out.x2
          have y3 := Y12.out.x3
          have y4 := Y12.out.x4
          have y5 := Y12.out.x5
          go_wp2_with fail
          refine (impFv_c (forgot ⟨p, len, dig, sign, bs, hv⟩ k) _ _ W12 (by show Rd 1 W12 _ (bs.set k ByteArray.empty).length (encS (bs.set k ByteArray.empty)); rw [List.length_set]; exact Rd.of_own O12b.out) (by show Rd 1 W12 _ (hv.set k false).length (encB (hv.set k false)); rw [List.length_set]; exact Rd.of_own O12.out)).mono ?_
          rintro e w13 ⟨rfl, hb13⟩
          rw [FGK.out]
          have HBZ := Lib.hid (HB0.out.trans ((D12.out.trans (hb13.mono D12.out.size)).mono HB0.out.size))
          clear hb13
          go_wp2
          go_ret
          exact ⟨rfl, HBZ.out⟩
end Go.Proofs.Ytbjndbaljenlgaa
