/- Walks: JoinValid of the reference. -/
import Derived.Test.YthnepmhkeceadaaJwC
namespace Go.Proofs.Ythnepmhkeceadaa
open Go.RowKit
def ClkAt (F : Fd) (w i v k : Nat) : Prop := (∀ x, x < (ent F v k).1.length → x < 3 ∧ ck F v k x ≤ ck F w i x) ∧ (v ≠ w → (ent F v k).1.length = 3 → ck F v k w ≤ (i : Int))
def ClkV (F : Fd) (w i v : Nat) : Prop := (0 ≤ ck F w i v ∧ ck F w i v ≤ (ln F v : Int)) ∧ ∀ k : Nat, (k : Int) < (if v = w then (i : Int) else ck F w i v) → ClkAt F w i v k
def Clk (F : Fd) (w i : Nat) : Prop := (ent F w i).1.length = 3 ∧ ck F w i w = (i : Int) + 1 ∧ ∀ v, v < 3 → ClkV F w i v
open Classical in
noncomputable def clB (F : Fd) (w i : Nat) : Bool := decide (Clk F w i)
theorem clB_t {F : Fd} {w i : Nat} (h : Clk F w i) : clB F w i = true := by unfold clB; simp [h]
theorem clB_f {F : Fd} {w i : Nat} (h : ¬ Clk F w i) : clB F w i = false := by unfold clB; simp [h]
/-- The reference's conditions are the program's. -/
theorem JV_iff {F : Fd} : JV F ↔ Shp F ∧ ∀ w, w < 3 → ∀ i, i < ln F w → Clk F w i ∧ (0 ≤ (ent F w i).2.1 ∧ (ent F w i).2.1 ≤ 9) ∧ 0 ≤ (ent F w i).2.2 ∧ (ent F w i).2.2 ≤ 99 := by
  constructor
  · intro h
    refine ⟨⟨h.1, h.2.1⟩, fun w hw i hi => ?_⟩
    obtain ⟨e1, e2, e3, e4, e5⟩ := h.2.2.1 w hw i hi
    refine ⟨⟨e1, e2, fun v hv => ⟨e5 v hv, fun k hk => ?_⟩⟩, e3, e4⟩
    have h5 := e5 v hv
    have hkc : (k : Int) < ck F w i v := by
      split at hk
      · rename_i e; subst e; omega
      · exact hk
    have hkl : k < ln F v := by omega
    have hl := (h.2.2.1 v hv k hkl).1
    refine ⟨fun x hx => ⟨by omega, (h.up hw hi hv hkc (by omega)).2⟩, fun hne _ => h.anti hw hi hv hkc hne⟩
  · rintro ⟨⟨h1, h2⟩, h3⟩
    refine ⟨h1, h2, fun w hw i hi => ?_, fun w hw i hi v hv k hk => ?_⟩
    · obtain ⟨⟨a1, a2, a3⟩, a4, a5⟩ := h3 w hw i hi
      exact ⟨a1, a2, a4, a5, fun v hv => (a3 v hv).1⟩
    · obtain ⟨⟨a1, a2, a3⟩, -⟩ := h3 w hw i hi
      obtain ⟨⟨b1, b2, -⟩, -⟩ := h3 v hv k hk
      rcases Int.lt_or_le (k : Int) (ck F w i v) with hlt | hle
      · by_cases e : v = w
        · subst e
          by_cases e2 : k = i
          · exact .inl ⟨rfl, e2.symm⟩
          · obtain ⟨c1, -⟩ := (a3 v hv).2 k (by rw [if_pos rfl]; omega)
            exact .inr (.inr ⟨fun x hx => (c1 x (by omega)).2, by omega⟩)
        · obtain ⟨c1, c2⟩ := (a3 v hv).2 k (by rw [if_neg e]; exact hlt)
          exact .inr (.inr ⟨fun x hx => (c1 x (by omega)).2, c2 e b1⟩)
      · exact .inr (.inl hle)
set_option maxRecDepth 100000 in
set_option maxHeartbeats 6400000 in
theorem l31Clock_c {S : Nat → Prop} (F : Fd) (fv : Value) (w i : Nat) (W : World) (h : RdF S W fv F) (hF : F.length = 3) (hw : w < 3) (hi : i < ln F w) (h8 : ln F w ≤ 8) :
    Calls Try.prog 58 #[fv, .int .i64 w, .int .i64 i] W (SeesPost (clB F w i) W) := by
  obtain ⟨b, off, cap, b2, off2, cap2, a3, cap3, rfl, h1, h2, c1, h3, h4, c2, c3, c4, hr⟩ := h.entry (by rw [hF]; exact hw) hi
  have HR := Lib.hid hr
  obtain ⟨L, hL⟩ : ∃ L, (ent F w i).1.length = L := ⟨_, rfl⟩
  obtain ⟨key, hkey⟩ : ∃ L, (ent F w i).2.1 = L := ⟨_, rfl⟩
  obtain ⟨val, hval⟩ : ∃ L, (ent F w i).2.2 = L := ⟨_, rfl⟩
  rw [hkey] at c3
  rw [hval] at c4
  rw [hL] at c2
  rw [hF] at h1 h ⊢
  have H := Lib.hid h
  have HE := Lib.hid hL
  have HF := Lib.hid hF
  unfold maxLen at h2 h4
  clear h hr hL hkey hval hF
  have hw' : (w : Int) < 3 := by omega
  have hi' : (i : Int) < (ln F w : Int) := by omega
  have hw0 : (0 : Int) ≤ (w : Int) := by omega
  have hb2 : Below W.heap.size W (W.alloc (.cells #[.slice a3 L cap3, .int .i64 key, .int .i64 val] 32)) := by (repeat' (first | exact Below.refl _ _ | assumption | refine Below.drew ?_ | refine below_drewN ?_ _ | refine Below.alloc ?_ (by omega) _ | refine Below.alloc ?_ (by simp; omega) _ | refine Below.alloc ?_ (by simp) _ | refine Below.setCell ?_ (by omega) _ | refine Below.setCell ?_ (by simp; omega) _ | refine Below.setCell ?_ (by simp) _))
  obtain ⟨W2, hW2⟩ : ∃ W2, W2 = W.alloc (.cells #[.slice a3 L cap3, .int .i64 key, .int .i64 val] 32) := ⟨_, rfl⟩
  rw [← hW2] at hb2
  have y0 : W2.cell? ⟨W.heap.size, 0, none⟩ = some (.slice a3 L cap3) := by rw [hW2]; simp
  have HB := Lib.hid hb2
  have HR2 := Lib.hid (HR.out.below hb2)
  have HF2 := Lib.hid (H.out.below hb2)
  have hz2 := hb2.size
  have HW2 := Lib.hid hW2
  clear hb2 hW2
  have z1 := World.new_ne W _ c1
  have z2 := World.new_ne W _ c2
  by_cases e1 : L = 3
  · subst e1
    obtain ⟨b3, o3, c3', z, ev, q1, q2, q3, HZ⟩ := HR.out.num' HE.out hw
    simp only [Value.slice.injEq] at ev
    obtain ⟨rfl, -, rfl⟩ := ev
    unfold maxLen at q2
    have z3 : b3 < W.heap.size := World.block_lt_of_cell? W _ q3
    have hw1 : IntKind.i64.wrap ((i : Int) + 1) = (i : Int) + 1 := by rw [IntKind.wrap_i64]; omega
    by_cases e2 : z = (i : Int) + 1
    · subst e2
      go_enter Try.func58, Try.ntmps58
      go_wp2
      rw [← HW2.out]
      clear hw1
      go_loopw [8] (fun i' wr => ∃ v : Nat, v ≤ 3 ∧ i' = .int .i64 v ∧ Hid (Below W2.heap.size W2 wr) ∧ Hid (∀ u, u < v → ClkV F w i u)) (fun i' _ => 3 - (intOf i').toNat)
      case atStart => exact ⟨0, Nat.zero_le _, rfl, Below.refl _ _, fun u hu => absurd hu (Nat.not_lt_zero _)⟩
      case round =>
        obtain ⟨v, hv, rfl, HBr, HN⟩ := hrel
        obtain ⟨wo, rfl⟩ : ∃ wo : World, wo = wr := ⟨_, rfl⟩
        have Y0 := Lib.hid y0
        clear y0 c1 c2 c3 c4 q3
        by_cases hlt : v < 3
        · obtain ⟨b5, o5, c5, a6, c6, ev, -, -, q5, q6, q7, -⟩ := HF2.out.feed (j := v) (by rw [HF.out]; exact hlt)
          simp only [Value.slice.injEq, Option.some.injEq, Addr.mk.injEq, and_true] at ev
          obtain ⟨⟨rfl, rfl⟩, -, rfl⟩ := ev
          obtain ⟨b4, o4, c4', y, ev, -, -, q4, HY⟩ := HR2.out.num' HE.out hlt
          simp only [Value.slice.injEq, Option.some.injEq, Addr.mk.injEq, and_true] at ev
          obtain ⟨⟨rfl, rfl⟩, -, rfl⟩ := ev
          have Y1 := cell_keep HBr.out Y0.out
          have q4 := cell_keep HBr.out q4
          have q5 := cell_keep HBr.out q5
          unfold maxLen at q7
          have hv0 : (0 : Int) ≤ (v : Int) := by omega
          have hv3 : (v : Int) < 3 := by omega
          by_cases hyr : 0 ≤ y ∧ y ≤ (ln F v : Int)
          · obtain ⟨hy0, hy1⟩ := hyr
            have HYR := Lib.hid (show 0 ≤ ck F w i v ∧ ck F w i v ≤ (ln F v : Int) from by have : ck F w i v = y := HY.out; rw [this]; exact ⟨hy0, hy1⟩)
            go_wp2
            go_quiet ((exact l6In_qt _ _ _ _ _ (by assumption) (by assumption)))
            have HB7 : Hid (Below W2.heap.size W2 (wo.drewN nq)) := by have := HBr.out; show Below _ _ _; (repeat' (first | exact Below.refl _ _ | assumption | refine Below.drew ?_ | refine below_drewN ?_ _ | refine Below.alloc ?_ (by omega) _ | refine Below.alloc ?_ (by simp; omega) _ | refine Below.alloc ?_ (by simp) _ | refine Below.setCell ?_ (by omega) _ | refine Below.setCell ?_ (by simp; omega) _ | refine Below.setCell ?_ (by simp) _))
            obtain ⟨w7, hw7⟩ : ∃ w7, w7 = wo.drewN nq := ⟨_, rfl⟩
            rw [← hw7] at HB7 ⊢
            clear hw7 HBr q5 q4 Y1
            have Y1 := cell_keep HB7.out Y0.out
            obtain ⟨b4, o4, c4', y', ev, -, -, q4, HY'⟩ := HR2.out.num' HE.out hlt
            simp only [Value.slice.injEq, Option.some.injEq, Addr.mk.injEq, and_true] at ev
            obtain ⟨⟨rfl, rfl⟩, -, rfl⟩ := ev
            obtain rfl : y = y' := HY.out.symm.trans HY'.out
            have q4 := cell_keep HB7.out q4
            clear HY'
            by_cases hvw : v = w
            · obtain rfl := hvw
              have HD1 : Hid (ClkV F v i v → ∀ k, k < i → ClkAt F v i v k) := fun hh k hk => hh.2 k (by rw [if_pos rfl]; omega)
              have HD2 : Hid ((0 ≤ ck F v i v ∧ ck F v i v ≤ (ln F v : Int)) → (∀ k, k < i → ClkAt F v i v k) → ClkV F v i v) := fun h0 hh => ⟨h0, fun k hk => hh k (by rw [if_pos rfl] at hk; omega)⟩
              have hLl : i ≤ ln F v := by omega
              go_wp2
              go_loopw [10] (fun i' wr => ∃ k : Nat, k ≤ i ∧ i' = .int .i64 k ∧ Hid (Below W2.heap.size W2 wr) ∧ Hid (∀ j, j < k → ClkAt F v i v j)) (fun i' _ => i - (intOf i').toNat)
              case atStart => exact ⟨0, Nat.zero_le _, rfl, HB7, fun j hj => absurd hj (Nat.not_lt_zero _)⟩
              case round =>
                obtain ⟨k, hk, rfl, HBk, HK⟩ := hrel
                obtain ⟨wk, rfl⟩ : ∃ wk : World, wk = wr := ⟨_, rfl⟩
                clear HB7
                by_cases hkL : k < i
                · have hkl : k < ln F v := by omega
                  obtain ⟨b9, o9, c9, bA, oA, cA, aB, cB, ev, -, -, d1, g1, g2, d2, -, -, hrr⟩ := HF2.out.entry (j := v) (i := k) (by rw [HF.out]; exact hlt) hkl
                  simp only [Value.slice.injEq, Option.some.injEq, Addr.mk.injEq, and_true] at ev
                  obtain ⟨⟨rfl, rfl⟩, -, rfl⟩ := ev
                  have HRR := Lib.hid hrr
                  unfold maxLen at g2
                  have D1 := Lib.hid d1
                  have D2 := Lib.hid d2
                  obtain ⟨n, hn⟩ : ∃ n, (ent F v k).1.length = n := ⟨_, rfl⟩
                  have HNl := Lib.hid hn
                  obtain ⟨aB', cB', hsh, hq1, hq2⟩ := hrr.shape
                  simp only [Value.slice.injEq, true_and] at hsh
                  obtain ⟨rfl, rfl⟩ := hsh
                  unfold maxLen at hq2
                  rw [hn] at hq1
                  clear hrr d1 d2 hn
                  have hk0 : (0 : Int) ≤ (k : Int) := by omega
                  have hk1 : (k : Int) < (ln F v : Int) := by omega
                  go_wp2
                  go_loopw [11] (fun i' wr => ∃ x : Nat, x ≤ n ∧ i' = .int .i64 x ∧ Hid (Below W2.heap.size W2 wr) ∧ Hid (∀ y, y < x → y < 3 ∧ ck F v k y ≤ ck F v i y)) (fun i' _ => n - (intOf i').toNat)
                  case atStart => exact ⟨0, Nat.zero_le _, rfl, HBk, fun y hy => absurd hy (Nat.not_lt_zero _)⟩
                  case round =>
                    clear HBk
                    obtain ⟨x, hx, rfl, HBx, HX⟩ := hrel
                    have d0 := cell_keep HBx.out Y0.out
                    have d1 := cell_keep HBx.out D1.out
                    have d2 := cell_keep HBx.out D2.out
                    rw [HNl.out] at d2
                    by_cases hxn : x < n
                    · by_cases hx3 : x < 3
                      · obtain ⟨bC, oC, cC, y1, ev, -, -, d3, HY1⟩ := HRR.out.num' HNl.out hxn
                        simp only [Value.slice.injEq] at ev
                        obtain ⟨rfl, -, rfl⟩ := ev
                        obtain ⟨bE, oE, cE, y2, ev, -, -, d4, HY2⟩ := HR2.out.num' HE.out hx3
                        simp only [Value.slice.injEq, Option.some.injEq, Addr.mk.injEq] at ev
                        obtain ⟨⟨rfl, rfl, -⟩, -, rfl⟩ := ev
                        have d3 := cell_keep HBx.out d3
                        have d4 := cell_keep HBx.out d4
                        have hx0 : (0 : Int) ≤ (x : Int) := by omega
                        have hx1 : (x : Int) < (n : Int) := by omega
                        have hx2 : (x : Int) < 3 := by omega
                        by_cases hgt : y2 < y1
                        · go_wp2
                          go_quiet (fail)
                          go_wp2
                          go_ret
                          exact ⟨ret_b (clB_f fun hh => by
                            have h1 := ((HD1.out (hh.2.2 v hlt) k hkL).1 x (by rw [HNl.out]; exact hxn)).2
                            have h2 : ck F v k x = y1 := HY1.out
                            have h3 : ck F v i x = y2 := HY2.out
                            omega).symm, by have := HB.out.trans (HBx.out.mono hz2); (repeat' (first | exact Below.refl _ _ | assumption | refine Below.drew ?_ | refine below_drewN ?_ _ | refine Below.alloc ?_ (by omega) _ | refine Below.alloc ?_ (by simp; omega) _ | refine Below.alloc ?_ (by simp) _ | refine Below.setCell ?_ (by omega) _ | refine Below.setCell ?_ (by simp; omega) _ | refine Below.setCell ?_ (by simp) _))⟩
                        · have hgt' : ¬ (y2 < y1) := hgt
                          go_wp2
                          go_quiet (fail)
                          go_wp2
                          go_roundw
                          case rel =>
                            refine ⟨x + 1, by omega, by go_num, by have := HBx.out; show Below _ _ _; (repeat' (first | exact Below.refl _ _ | assumption | refine Below.drew ?_ | refine below_drewN ?_ _ | refine Below.alloc ?_ (by omega) _ | refine Below.alloc ?_ (by simp; omega) _ | refine Below.alloc ?_ (by simp) _ | refine Below.setCell ?_ (by omega) _ | refine Below.setCell ?_ (by simp; omega) _ | refine Below.setCell ?_ (by simp) _)), fun u hu => ?_⟩
                            by_cases e : u = x
                            · subst e
                              have h2 : ck F v k u = y1 := HY1.out
                              have h3 : ck F v i u = y2 := HY2.out
                              exact ⟨hx3, by omega⟩
                            · exact HX.out u (by omega)
                          case measure => simp [intOf]; omega
                      · have hx2 : ¬ ((x : Int) < 3) := by omega
                        have hx2' : (3 : Int) ≤ (x : Int) := by omega
                        have hx1 : (x : Int) < (n : Int) := by omega
                        go_wp2
                        go_quiet (fail)
                        go_wp2
                        go_ret
                        exact ⟨ret_b (clB_f fun hh => by
                          have h1 := ((HD1.out (hh.2.2 v hlt) k hkL).1 x (by rw [HNl.out]; exact hxn)).1
                          omega).symm, by have := HB.out.trans (HBx.out.mono hz2); (repeat' (first | exact Below.refl _ _ | assumption | refine Below.drew ?_ | refine below_drewN ?_ _ | refine Below.alloc ?_ (by omega) _ | refine Below.alloc ?_ (by simp; omega) _ | refine Below.alloc ?_ (by simp) _ | refine Below.setCell ?_ (by omega) _ | refine Below.setCell ?_ (by simp; omega) _ | refine Below.setCell ?_ (by simp) _))⟩
                    · obtain rfl : x = n := by omega
                      have HCx := Lib.hid (show ∀ y, y < (ent F v k).1.length → y < 3 ∧ ck F v k y ≤ ck F v i y from fun y hy => HX.out y (by rw [HNl.out] at hy; exact hy))
                      clear HX
                      go_wp2
                      go_roundw
                      case rel =>
                        refine ⟨k + 1, by omega, by go_num, HBx, fun j hj => ?_⟩
                        by_cases e : j = k
                        · subst e; exact ⟨HCx.out, fun hne => absurd rfl hne⟩
                        · exact HK.out j (by omega)
                      case measure => simp [intOf]; omega
                · obtain rfl : i = k := by omega
                  have HVok := Lib.hid (HD2.out HYR.out HK.out)
                  clear HK
                  go_wp2
                  go_roundw
                  case rel =>
                    refine ⟨v + 1, by omega, by go_num, HBk, fun u hu => ?_⟩
                    by_cases e : u = v
                    · subst e; exact HVok.out
                    · exact HN.out u (by omega)
                  case measure => simp [intOf]; omega
            · have hvw' : ((v : Int) == (w : Int)) = false := by rw [beq_eq_false_iff_ne]; omega
              have HVW := Lib.hid (show v ≠ w from hvw)
              obtain ⟨L, rfl⟩ := Int.eq_ofNat_of_zero_le hy0
              have hLl : L ≤ ln F v := by omega
              have hvw'' : ((v : Int) != (w : Int)) = true := by rw [bne_iff_ne]; omega
              have HD1 : Hid (ClkV F w i v → ∀ k, k < L → ClkAt F w i v k) := fun hh k hk => hh.2 k (by rw [if_neg HVW.out, show ck F w i v = (L : Int) from HY.out]; omega)
              have HD2 : Hid ((0 ≤ ck F w i v ∧ ck F w i v ≤ (ln F v : Int)) → (∀ k, k < L → ClkAt F w i v k) → ClkV F w i v) := fun h0 hh => ⟨h0, fun k hk => hh k (by rw [if_neg HVW.out, show ck F w i v = (L : Int) from HY.out] at hk; omega)⟩
              clear hvw
              go_wp2
              go_loopw [10] (fun i' wr => ∃ k : Nat, k ≤ L ∧ i' = .int .i64 k ∧ Hid (Below W2.heap.size W2 wr) ∧ Hid (∀ j, j < k → ClkAt F w i v j)) (fun i' _ => L - (intOf i').toNat)
              case atStart => exact ⟨0, Nat.zero_le _, rfl, HB7, fun j hj => absurd hj (Nat.not_lt_zero _)⟩
              case round =>
                obtain ⟨k, hk, rfl, HBk, HK⟩ := hrel
                obtain ⟨wk, rfl⟩ : ∃ wk : World, wk = wr := ⟨_, rfl⟩
                clear HB7
                by_cases hkL : k < L
                · have hkl : k < ln F v := by omega
                  obtain ⟨b9, o9, c9, bA, oA, cA, aB, cB, ev, -, -, d1, g1, g2, d2, -, -, hrr⟩ := HF2.out.entry (j := v) (i := k) (by rw [HF.out]; exact hlt) hkl
                  simp only [Value.slice.injEq, Option.some.injEq, Addr.mk.injEq, and_true] at ev
                  obtain ⟨⟨rfl, rfl⟩, -, rfl⟩ := ev
                  have HRR := Lib.hid hrr
                  unfold maxLen at g2
                  have D1 := Lib.hid d1
                  have D2 := Lib.hid d2
                  obtain ⟨n, hn⟩ : ∃ n, (ent F v k).1.length = n := ⟨_, rfl⟩
                  have HNl := Lib.hid hn
                  obtain ⟨aB', cB', hsh, hq1, hq2⟩ := hrr.shape
                  simp only [Value.slice.injEq, true_and] at hsh
                  obtain ⟨rfl, rfl⟩ := hsh
                  unfold maxLen at hq2
                  rw [hn] at hq1
                  clear hrr d1 d2 hn
                  have hk0 : (0 : Int) ≤ (k : Int) := by omega
                  have hk1 : (k : Int) < (ln F v : Int) := by omega
                  go_wp2
                  go_loopw [11] (fun i' wr => ∃ x : Nat, x ≤ n ∧ i' = .int .i64 x ∧ Hid (Below W2.heap.size W2 wr) ∧ Hid (∀ y, y < x → y < 3 ∧ ck F v k y ≤ ck F w i y)) (fun i' _ => n - (intOf i').toNat)
                  case atStart => exact ⟨0, Nat.zero_le _, rfl, HBk, fun y hy => absurd hy (Nat.not_lt_zero _)⟩
                  case round =>
                    clear HBk
                    obtain ⟨x, hx, rfl, HBx, HX⟩ := hrel
                    have d0 := cell_keep HBx.out Y0.out
                    have d1 := cell_keep HBx.out D1.out
                    have d2 := cell_keep HBx.out D2.out
                    rw [HNl.out] at d2
                    by_cases hxn : x < n
                    · by_cases hx3 : x < 3
                      · obtain ⟨bC, oC, cC, y1, ev, -, -, d3, HY1⟩ := HRR.out.num' HNl.out hxn
                        simp only [Value.slice.injEq] at ev
                        obtain ⟨rfl, -, rfl⟩ := ev
                        obtain ⟨bE, oE, cE, y2, ev, -, -, d4, HY2⟩ := HR2.out.num' HE.out hx3
                        simp only [Value.slice.injEq, Option.some.injEq, Addr.mk.injEq] at ev
                        obtain ⟨⟨rfl, rfl, -⟩, -, rfl⟩ := ev
                        have d3 := cell_keep HBx.out d3
                        have d4 := cell_keep HBx.out d4
                        have hx0 : (0 : Int) ≤ (x : Int) := by omega
                        have hx1 : (x : Int) < (n : Int) := by omega
                        have hx2 : (x : Int) < 3 := by omega
                        by_cases hgt : y2 < y1
                        · go_wp2
                          go_quiet (fail)
                          go_wp2
                          go_ret
                          exact ⟨ret_b (clB_f fun hh => by
                            have h1 := ((HD1.out (hh.2.2 v hlt) k hkL).1 x (by rw [HNl.out]; exact hxn)).2
                            have h2 : ck F v k x = y1 := HY1.out
                            have h3 : ck F w i x = y2 := HY2.out
                            omega).symm, by have := HB.out.trans (HBx.out.mono hz2); (repeat' (first | exact Below.refl _ _ | assumption | refine Below.drew ?_ | refine below_drewN ?_ _ | refine Below.alloc ?_ (by omega) _ | refine Below.alloc ?_ (by simp; omega) _ | refine Below.alloc ?_ (by simp) _ | refine Below.setCell ?_ (by omega) _ | refine Below.setCell ?_ (by simp; omega) _ | refine Below.setCell ?_ (by simp) _))⟩
                        · have hgt' : ¬ (y2 < y1) := hgt
                          go_wp2
                          go_quiet (fail)
                          go_wp2
                          go_roundw
                          case rel =>
                            refine ⟨x + 1, by omega, by go_num, by have := HBx.out; show Below _ _ _; (repeat' (first | exact Below.refl _ _ | assumption | refine Below.drew ?_ | refine below_drewN ?_ _ | refine Below.alloc ?_ (by omega) _ | refine Below.alloc ?_ (by simp; omega) _ | refine Below.alloc ?_ (by simp) _ | refine Below.setCell ?_ (by omega) _ | refine Below.setCell ?_ (by simp; omega) _ | refine Below.setCell ?_ (by simp) _)), fun u hu => ?_⟩
                            by_cases e : u = x
                            · subst e
                              have h2 : ck F v k u = y1 := HY1.out
                              have h3 : ck F w i u = y2 := HY2.out
                              exact ⟨hx3, by omega⟩
                            · exact HX.out u (by omega)
                          case measure => simp [intOf]; omega
                      · have hx2 : ¬ ((x : Int) < 3) := by omega
                        have hx2' : (3 : Int) ≤ (x : Int) := by omega
                        have hx1 : (x : Int) < (n : Int) := by omega
                        go_wp2
                        go_quiet (fail)
                        go_wp2
                        go_ret
                        exact ⟨ret_b (clB_f fun hh => by
                          have h1 := ((HD1.out (hh.2.2 v hlt) k hkL).1 x (by rw [HNl.out]; exact hxn)).1
                          omega).symm, by have := HB.out.trans (HBx.out.mono hz2); (repeat' (first | exact Below.refl _ _ | assumption | refine Below.drew ?_ | refine below_drewN ?_ _ | refine Below.alloc ?_ (by omega) _ | refine Below.alloc ?_ (by simp; omega) _ | refine Below.alloc ?_ (by simp) _ | refine Below.setCell ?_ (by omega) _ | refine Below.setCell ?_ (by simp; omega) _ | refine Below.setCell ?_ (by simp) _))⟩
                    · obtain rfl : x = n := by omega
                      have HCx := Lib.hid (show ∀ y, y < (ent F v k).1.length → y < 3 ∧ ck F v k y ≤ ck F w i y from fun y hy => HX.out y (by rw [HNl.out] at hy; exact hy))
                      clear HX
                      by_cases hx3 : x = 3
                      · obtain ⟨bC, oC, cC, y1, ev, -, -, d3, HY1⟩ := HRR.out.num' (HNl.out.trans hx3) hw
                        simp only [Value.slice.injEq] at ev
                        obtain ⟨rfl, -, rfl⟩ := ev
                        have d3 := cell_keep HBx.out d3
                        have hx3' : ((x : Int) == 3) = true := by simp [hx3]
                        have HX3 := Lib.hid hx3
                        have hx4 : (w : Int) < (x : Int) := by omega
                        have hx5 : w < x := by omega
                        clear hx3
                        by_cases hgt : (i : Int) < y1
                        · go_wp2
                          go_ret
                          exact ⟨ret_b (clB_f fun hh => by
                            have h1 := (HD1.out (hh.2.2 v hlt) k hkL).2 HVW.out (HNl.out.trans HX3.out)
                            have h2 : ck F v k w = y1 := HY1.out
                            omega).symm, HB.out.trans (HBx.out.mono hz2)⟩
                        · have hgt' : ¬ ((i : Int) < y1) := hgt
                          go_wp2
                          go_roundw
                          case rel =>
                            refine ⟨k + 1, by omega, by go_num, HBx, fun j hj => ?_⟩
                            by_cases e : j = k
                            · subst e; exact ⟨HCx.out, fun _ _ => by have h2 : ck F v j w = y1 := HY1.out; omega⟩
                            · exact HK.out j (by omega)
                          case measure => simp [intOf]; omega
                      · have hx3' : ((x : Int) == 3) = false := by rw [beq_eq_false_iff_ne]; omega
                        go_wp2
                        go_roundw
                        case rel =>
                          refine ⟨k + 1, by omega, by go_num, HBx, fun j hj => ?_⟩
                          by_cases e : j = k
                          · subst e; exact ⟨HCx.out, fun _ hl => absurd (HNl.out.symm.trans hl) hx3⟩
                          · exact HK.out j (by omega)
                        case measure => simp [intOf]; omega
                · obtain rfl : L = k := by omega
                  have HVok := Lib.hid (HD2.out HYR.out HK.out)
                  clear HK
                  go_wp2
                  go_roundw
                  case rel =>
                    refine ⟨v + 1, by omega, by go_num, HBk, fun u hu => ?_⟩
                    by_cases e : u = v
                    · subst e; exact HVok.out
                    · exact HN.out u (by omega)
                  case measure => simp [intOf]; omega
          · have hyr' : y < 0 ∨ (ln F v : Int) < y := by omega
            clear hyr
            go_wp2
            go_quiet ((exact l6In_qf _ _ _ _ _ hyr'))
            go_wp2
            go_ret
            exact ⟨ret_b (clB_f fun hh => by have h1 := (hh.2.2 v hlt).1; have : ck F w i v = y := HY.out; rw [this] at h1; omega).symm, by have := HB.out.trans (HBr.out.mono hz2); (repeat' (first | exact Below.refl _ _ | assumption | refine Below.drew ?_ | refine below_drewN ?_ _ | refine Below.alloc ?_ (by omega) _ | refine Below.alloc ?_ (by simp; omega) _ | refine Below.alloc ?_ (by simp) _ | refine Below.setCell ?_ (by omega) _ | refine Below.setCell ?_ (by simp; omega) _ | refine Below.setCell ?_ (by simp) _))⟩
        · obtain rfl : v = 3 := by omega
          have hT := Lib.hid (clB_t (F := F) (w := w) (i := i) ⟨HE.out, HZ.out, HN.out⟩)
          go_wp2
          go_ret
          exact ⟨ret_b hT.out.symm, HB.out.trans (HBr.out.mono hz2)⟩
    · have e2' : (z == (i : Int) + 1) = false := by rw [beq_eq_false_iff_ne]; exact e2
      have e2'' : (z != (i : Int) + 1) = true := by rw [bne_iff_ne]; exact e2
      have HN := Lib.hid e2
      clear e2
      go_enter Try.func58, Try.ntmps58
      go_wp2
      rw [← HW2.out]
      go_ret
      exact ⟨ret_b (clB_f fun hh => HN.out (HZ.out.symm.trans hh.2.1)).symm, HB.out⟩
  · have hf := Lib.hid (clB_f (F := F) (w := w) (i := i) (fun hh => e1 (HE.out ▸ hh.1)))
    have e1' : ((L : Int) == 3) = false := by rw [beq_eq_false_iff_ne]; omega
    have e1'' : ((L : Int) != 3) = true := by rw [bne_iff_ne]; omega
    clear e1
    go_enter Try.func58, Try.ntmps58
    go_wp2
    rw [← HW2.out]
    go_ret
    exact ⟨ret_b hf.out.symm, HB.out⟩
end Go.Proofs.Ythnepmhkeceadaa
