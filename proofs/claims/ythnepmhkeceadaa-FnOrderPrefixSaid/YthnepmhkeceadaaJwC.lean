/- Walks: whether a pair of entries is valid; JoinValid of the program. -/
import Derived.Test.YthnepmhkeceadaaJwB
namespace Go.Proofs.Ythnepmhkeceadaa
open Go.RowKit
open Classical in
noncomputable def pvB (F : Fd) (w i v k : Nat) : Bool := decide (PairOk F w i v k)
theorem pvB_t {F : Fd} {w i v k : Nat} (h : PairOk F w i v k) : pvB F w i v k = true := by unfold pvB; simp [h]
theorem pvB_f {F : Fd} {w i v k : Nat} (h : ¬ PairOk F w i v k) : pvB F w i v k = false := by unfold pvB; simp [h]
theorem seesB_t {F : Fd} {w i v k : Nat} (h : ¬ (w = v ∧ i = k)) (h2 : (k : Int) < ck F w i v) : seesB F w i v k = true := by unfold seesB; simp [h, h2]
theorem seesB_f {F : Fd} {w i v k : Nat} (h : (w = v ∧ i = k) ∨ ck F w i v ≤ (k : Int)) : seesB F w i v k = false := by
  unfold seesB
  rw [decide_eq_false_iff_not]
  rintro ⟨h1, h2⟩
  rcases h with h | h
  · exact h1 h
  · omega
set_option maxHeartbeats 1600000 in
theorem pairValid_c {S : Nat → Prop} (F : Fd) (fv : Value) (w i v k : Nat) (W : World) (h : RdF S W fv F) (hs : Shp F) (hw : w < 3) (hi : i < ln F w) (hv : v < 3) (hk : k < ln F v) (ha : (ent F w i).1.length = 3) (hb : (ent F v k).1.length = 3) :
    Calls Try.prog 46 #[fv, .agg #[.int .i64 w, .int .i64 i], .agg #[.int .i64 v, .int .i64 k]] W (SeesPost (pvB F w i v k) W) := by
  have hF := hs.1
  have HA := Lib.hid (And.intro ha hb)
  have HS := Lib.hid hF
  have hB0 : Below W.heap.size W ((W.alloc (.cells #[.int .i64 w, .int .i64 i] 37)).alloc (.cells #[.int .i64 v, .int .i64 k] 37)) := by (repeat' (first | exact Below.refl _ _ | assumption | refine Below.drew ?_ | refine below_drewN ?_ _ | refine Below.alloc ?_ (by omega) _ | refine Below.alloc ?_ (by simp; omega) _ | refine Below.alloc ?_ (by simp) _ | refine Below.setCell ?_ (by omega) _ | refine Below.setCell ?_ (by simp; omega) _ | refine Below.setCell ?_ (by simp) _))
  have H := Lib.hid h
  have HB := Lib.hid hB0
  have hz0 := hB0.size
  clear h hs ha hb hF hB0
  go_enter Try.func46, Try.ntmps46
  go_wp2_with fail
  refine (sees_c F _ w i v k _ (H.out.below HB.out) (by rw [HS.out]; exact hw) hi (by rw [HA.out.1]; exact hv)).mono ?_
  rintro e w1 ⟨rfl, hb1⟩
  by_cases hse : ¬ (w = v ∧ i = k) ∧ (k : Int) < ck F w i v
  · rw [seesB_t hse.1 hse.2]
    have x0 := cell_keep hb1 (show _ = some (.int .i64 (w : Int)) by simp) (a := ⟨W.heap.size, 0, none⟩)
    have x1 := cell_keep hb1 (show _ = some (.int .i64 (i : Int)) by simp) (a := ⟨W.heap.size, 1, none⟩)
    have y0 := cell_keep hb1 (show _ = some (.int .i64 (v : Int)) by simp) (a := ⟨W.heap.size + 1, 0, none⟩)
    have y1 := cell_keep hb1 (show _ = some (.int .i64 (k : Int)) by simp) (a := ⟨W.heap.size + 1, 1, none⟩)
    have HB1 := Lib.hid (HB.out.trans (hb1.mono hz0))
    have hz1 := HB1.out.size
    have HSE := Lib.hid hse
    clear hb1 hse
    go_wp2_with fail
    refine (clock_c F _ v k _ (H.out.below HB1.out) (by rw [HS.out]; exact hv) hk).mono ?_
    rintro e w2 ⟨cv, rfl, hr, hb2⟩
    have x0 := cell_keep hb2 x0
    have x1 := cell_keep hb2 x1
    have y0 := cell_keep hb2 y0
    have y1 := cell_keep hb2 y1
    have HB2 := Lib.hid (HB1.out.trans (hb2.mono hz1))
    have HR := Lib.hid hr
    obtain ⟨a3, c3, rfl, q1, q2⟩ := hr.shape
    clear hr hb2 HB1
    have HL := Lib.hid (show (Value.slice a3 (ent F v k).1.length c3) = .slice a3 3 c3 by rw [HA.out.2])
    rw [HL.out]
    clear q1 q2
    go_wp2
    go_loopw [18] (fun i' wr => ∃ x : Nat, x ≤ 3 ∧ i' = .int .i64 x ∧ Hid (Below w2.heap.size w2 wr) ∧ Hid (∀ y, y < x → ck F v k y ≤ ck F w i y)) (fun i' _ => 3 - (intOf i').toNat)
    case atStart => exact ⟨0, Nat.zero_le _, rfl, Below.refl _ _, fun y hy => absurd hy (Nat.not_lt_zero _)⟩
    case round =>
      obtain ⟨x, hx, rfl, HBr, HN⟩ := hrel
      have x0r := cell_keep HBr.out x0
      have x1r := cell_keep HBr.out x1
      have y0r := cell_keep HBr.out y0
      have y1r := cell_keep HBr.out y1
      have HBw := Lib.hid (HB2.out.trans (HBr.out.mono HB2.out.size))
      by_cases hlt : x < 3
      · obtain ⟨b4, o4, c4, y, ev, q1, q2, q3, HY⟩ := HR.out.num' HA.out.2 hlt
        simp only [Value.slice.injEq] at ev
        obtain ⟨rfl, -, rfl⟩ := ev
        unfold maxLen at q2
        have q3 := cell_keep HBr.out q3
        clear x0 x1 y0 y1
        go_wp2_with fail
        refine (clock_c F _ w i _ (H.out.below HBw.out) (by rw [HS.out]; exact hw) hi).mono ?_
        rintro e w3 ⟨cv, rfl, hr, hb3⟩
        obtain ⟨b5, o5, c5, z, rfl, q4, q5, q6, HZ⟩ := hr.num' HA.out.1 hlt
        have HB3 := Lib.hid (HBr.out.trans (hb3.mono HBr.out.size))
        unfold maxLen at q5
        clear hr hb3
        by_cases hgt : z < y
        · go_wp2
          go_ret
          exact ⟨ret_b (pvB_f fun hh => by
            rcases hh with hh | hh | ⟨hh, -⟩
            · exact HSE.out.1 hh
            · have := HSE.out.2; omega
            · have := hh x hlt; have h1 : ck F v k x = y := HY.out; have h2 : ck F w i x = z := HZ.out; omega).symm, HB2.out.trans (HB3.out.mono HB2.out.size)⟩
        · have hgt' : ¬ (z < y) := hgt
          go_wp2
          go_roundw
          case rel =>
            refine ⟨x + 1, by omega, by go_num, HB3.out, fun u hu => ?_⟩
            by_cases e : u = x
            · subst e; have h1 : ck F v k u = y := HY.out; have h2 : ck F w i u = z := HZ.out; omega
            · exact HN.out u (by omega)
          case measure => simp [intOf]; omega
      · obtain rfl : x = 3 := by omega
        clear x0 x1 y0 y1
        go_wp2_with fail
        refine (sees_c F _ v k w i _ (H.out.below HBw.out) (by rw [HS.out]; exact hv) hk (by rw [HA.out.2]; exact hw)).mono ?_
        rintro e w3 ⟨rfl, hb3⟩
        by_cases h2 : ¬ (v = w ∧ k = i) ∧ (i : Int) < ck F v k w
        · rw [seesB_t h2.1 h2.2]
          have HN2 := Lib.hid h2
          clear h2
          go_wp2
          go_ret
          exact ⟨ret_b (pvB_f fun hh => by
            rcases hh with hh | hh | ⟨-, hh⟩
            · exact HSE.out.1 hh
            · have := HSE.out.2; omega
            · have := HN2.out.2; omega).symm, HBw.out.trans (hb3.mono HBw.out.size)⟩
        · have hx : (v = w ∧ k = i) ∨ ck F v k w ≤ (i : Int) := by
            by_cases e : v = w ∧ k = i
            · exact .inl e
            · exact .inr (Int.not_lt.1 fun h => h2 ⟨e, h⟩)
          rw [seesB_f hx]
          have HN2 := Lib.hid hx
          clear h2 hx
          go_wp2
          go_ret
          exact ⟨ret_b (pvB_t (.inr (.inr ⟨HN.out, by
            rcases HN2.out with hh | hh
            · exact absurd ⟨hh.1.symm, hh.2.symm⟩ HSE.out.1
            · exact hh⟩))).symm, HBw.out.trans (hb3.mono HBw.out.size)⟩
  · have hx : (w = v ∧ i = k) ∨ ck F w i v ≤ (k : Int) := by
      by_cases e : w = v ∧ i = k
      · exact .inl e
      · exact .inr (Int.not_lt.1 fun h => hse ⟨e, h⟩)
    rw [seesB_f hx]
    have HN := Lib.hid hx
    clear hse hx
    go_wp2
    go_ret
    exact ⟨ret_b (pvB_t (by rcases HN.out with h | h; exact .inl h; exact .inr (.inl h))).symm, HB.out.trans (hb1.mono hz0)⟩
open Classical in
noncomputable def jvB (F : Fd) : Bool := decide (JV F)
theorem jvB_t {F : Fd} (h : JV F) : jvB F = true := by unfold jvB; simp [h]
theorem jvB_f {F : Fd} (h : ¬ JV F) : jvB F = false := by unfold jvB; simp [h]
set_option maxHeartbeats 3200000 in
theorem joinValid_c {S : Nat → Prop} (F : Fd) (fv : Value) (W : World) (h : RdF S W fv F) :
    Calls Try.prog 15 #[fv] W (SeesPost (jvB F) W) := by
  obtain ⟨a, cap, rfl, h1, h2⟩ := h.shape
  unfold maxLen at h2
  by_cases h3 : F.length = 3
  · rw [h3] at h h1 ⊢
    have H := Lib.hid h
    have HF := Lib.hid h3
    clear h h3
    go_enter Try.func15, Try.ntmps15
    go_wp2
    go_loop [17] (fun i' => ∃ k : Nat, k ≤ 3 ∧ i' = .int .i64 k ∧ Hid (∀ w, w < k → ln F w ≤ 8)) (fun i' => 3 - (intOf i').toNat)
    case atStart => exact ⟨0, Nat.zero_le _, rfl, fun w hw => absurd hw (Nat.not_lt_zero _)⟩
    case round =>
      obtain ⟨k, hk, rfl, HN⟩ := hrel
      by_cases hlt : k < 3
      · obtain ⟨b, off, cap', a2, cap2, e1, -, -, c1, g1, g2, -⟩ := H.out.feed (j := k) (by rw [HF.out]; exact hlt)
        simp only [Value.slice.injEq] at e1
        obtain ⟨rfl, -, rfl⟩ := e1
        unfold maxLen at g2
        by_cases h8 : ln F k ≤ 8
        · have h8' : (ln F k : Int) ≤ 8 := by omega
          go_wp2
          go_round
          case rel =>
            refine ⟨k + 1, by omega, by go_num, fun u hu => ?_⟩
            by_cases e : u = k
            · subst e; exact h8
            · exact HN.out u (by omega)
          case measure => simp [intOf]; omega
        · have h8' : (8 : Int) < (ln F k : Int) := by omega
          go_wp2
          go_ret
          exact ⟨ret_b (jvB_f fun hh => h8 (hh.2.1 k hlt)).symm, Below.refl _ _⟩
      · obtain rfl : k = 3 := by omega
        have HS := Lib.hid (show Shp F from ⟨HF.out, HN.out⟩)
        go_wp2_with fail
        refine (refs_c F _ _ H.out HS.out).mono ?_
        rintro e w1 ⟨va, rfl, hown, hb1⟩
        have hle := rfsN_le HS.out.2 3 (Nat.le_refl _)
        obtain ⟨a1, c1, rfl⟩ := own_slice hown
        have HR := Lib.hid (Rd.of_own hown)
        have H1 := Lib.hid (H.out.below hb1)
        have HB1 := Lib.hid hb1
        obtain ⟨-, a9, c9, e9, q1, q2, q3⟩ := Rd.of_own hown
        simp only [Value.slice.injEq, true_and] at e9
        obtain ⟨rfl, rfl⟩ := e9
        unfold maxLen at q2
        obtain ⟨n, hn⟩ : ∃ n, (rfsN F 3).length = n := ⟨_, rfl⟩
        rw [hn] at q1 q3 hle ⊢
        have HNn := Lib.hid hn
        have HQ := Lib.hid q3
        clear hown hb1 hn q3 HN
        have hz1 := HB1.out.size
        go_wp2
        go_loopw [29] (fun i' wr => ∃ k : Nat, k ≤ n ∧ i' = .int .i64 k ∧ Hid (Below w1.heap.size w1 wr) ∧ Hid (∀ (j w i : Nat), j < k → (rfsN F 3).getD j (0, 0) = ((w : Int), (i : Int)) → EntOk F w i)) (fun i' _ => n - (intOf i').toNat)
        case atStart => exact ⟨0, Nat.zero_le _, rfl, Below.refl _ _, fun j w i hj => absurd hj (Nat.not_lt_zero _)⟩
        case round =>
          obtain ⟨k, hk, rfl, HBr, HN⟩ := hrel
          by_cases hlt2 : k < n
          · obtain ⟨b, off, ha, hcell⟩ := HQ.out (by omega)
            subst ha
            obtain ⟨w, i, hwi, hw3, hil⟩ := rfs_at (F := F) (k := k) (by rw [HNn.out]; exact hlt2)
            obtain ⟨x, y, e1, cu1, cu2⟩ := at2 HBr.out hcell k (by rw [HNn.out]; exact hlt2)
            rw [hwi] at e1
            obtain ⟨rfl, rfl⟩ := Prod.mk.inj e1
            have HW := Lib.hid hwi
            clear hcell e1 hwi
            have hzr := HBr.out.size
            have hbx : Below w1.heap.size w1 (wr.alloc (.cells #[.int .i64 w, .int .i64 i] 37)) := HBr.out.alloc hzr _
            have HBx := Lib.hid hbx
            clear hbx
            go_wp2_with fail
            refine (entryValid_c F _ w i _ (H1.out.below HBx.out) HS.out hw3 hil).mono ?_
            rintro e w2 ⟨rfl, hb2⟩
            have HB2 := Lib.hid (HBx.out.trans (hb2.mono HBx.out.size))
            clear hb2 HBx cu1 cu2
            by_cases hev : EntOk F w i
            · rw [evB_t hev]
              have HE := Lib.hid hev
              clear hev
              go_wp2
              go_roundw
              case rel =>
                refine ⟨k + 1, by omega, by go_num, HB2.out, fun j w' i' hj he => ?_⟩
                by_cases e : j = k
                · subst e
                  rw [HW.out] at he
                  obtain ⟨e1, e2⟩ := Prod.mk.inj he
                  obtain rfl : w = w' := by omega
                  obtain rfl : i = i' := by omega
                  exact HE.out
                · exact HN.out j w' i' (by omega) he
              case measure => simp [intOf]; omega
            · rw [evB_f hev]
              have HE := Lib.hid hev
              clear hev
              go_wp2
              go_ret
              exact ⟨ret_b (jvB_f fun hh => HE.out (hh.2.2.1 w hw3 i hil)).symm, HB1.out.trans (HB2.out.mono hz1)⟩
          · obtain rfl : k = n := by omega
            have HA := Lib.hid (show ∀ w, w < 3 → ∀ i, i < ln F w → EntOk F w i from fun w hw i hi => by
              obtain ⟨j, hj, e⟩ := rfs_ix hw hi
              exact HN.out j w i (by rw [HNn.out] at hj; exact hj) e)
            clear HN
            obtain ⟨w3, hw3⟩ : ∃ w3 : World, w3 = wr := ⟨_, rfl⟩
            subst hw3
            have hz3 := HBr.out.size
            go_wp2
            go_loopw [40] (fun i' wr => ∃ p : Nat, p ≤ k ∧ i' = .int .i64 p ∧ Hid (Below w1.heap.size w1 wr) ∧ Hid (∀ (j j' w i v l : Nat), j < p → j' < k → (rfsN F 3).getD j (0, 0) = ((w : Int), (i : Int)) → (rfsN F 3).getD j' (0, 0) = ((v : Int), (l : Int)) → PairOk F w i v l)) (fun i' _ => k - (intOf i').toNat)
            case atStart => exact ⟨0, Nat.zero_le _, rfl, HBr.out, fun j j' w i v l hj => absurd hj (Nat.not_lt_zero _)⟩
            case round =>
              clear HBr hz3
              obtain ⟨p, hp, rfl, HBr, HP⟩ := hrel
              by_cases hpk : p < k
              · obtain ⟨b, off, ha, hcell⟩ := HQ.out (by omega)
                subst ha
                obtain ⟨w, i, hwi, hw3, hil⟩ := rfs_at (F := F) (k := p) (by rw [HNn.out]; exact hpk)
                obtain ⟨x, y, e1, cu1, cu2⟩ := at2 HBr.out hcell p (by rw [HNn.out]; exact hpk)
                rw [hwi] at e1
                obtain ⟨rfl, rfl⟩ := Prod.mk.inj e1
                have HW := Lib.hid hwi
                have HC := Lib.hid hcell
                clear hcell e1 hwi
                have hzr := HBr.out.size
                obtain ⟨wo, rfl⟩ : ∃ wo : World, wo = wr := ⟨_, rfl⟩
                obtain ⟨w4, hw4⟩ : ∃ w4 : World, w4 = wo.alloc (.cells #[.int .i64 w, .int .i64 i] 37) := ⟨_, rfl⟩
                have HB4 : Hid (Below w1.heap.size w1 w4) := by show Below _ _ _; rw [hw4]; exact HBr.out.alloc hzr _
                have x0 : w4.cell? ⟨wo.heap.size, 0, none⟩ = some (.int .i64 w) := by rw [hw4]; simp
                have x1 : w4.cell? ⟨wo.heap.size, 1, none⟩ = some (.int .i64 i) := by rw [hw4]; simp
                go_wp2
                rw [← hw4]
                clear hw4
                go_loopw [46] (fun i' wr' => ∃ q : Nat, q ≤ k ∧ i' = .int .i64 q ∧ Hid (Below w4.heap.size w4 wr') ∧ Hid (∀ (j' v l : Nat), j' < q → (rfsN F 3).getD j' (0, 0) = ((v : Int), (l : Int)) → PairOk F w i v l)) (fun i' _ => k - (intOf i').toNat)
                case atStart => exact ⟨0, Nat.zero_le _, rfl, Below.refl _ _, fun j' v l hj => absurd hj (Nat.not_lt_zero _)⟩
                case round =>
                  obtain ⟨q, hq, rfl, HBq, HQQ⟩ := hrel
                  have HB5 := Lib.hid (HB4.out.trans (HBq.out.mono HB4.out.size))
                  have hz5 := HB5.out.size
                  have x0' := cell_keep HBq.out x0
                  have x1' := cell_keep HBq.out x1
                  have hlt9 : wo.heap.size < wr.heap.size := World.block_lt_of_cell? wr _ x0'
                  clear cu1 cu2 hzr
                  by_cases hqk : q < k
                  · obtain ⟨v, l, hvl, hv3, hll⟩ := rfs_at (F := F) (k := q) (by rw [HNn.out]; exact hqk)
                    obtain ⟨x, y, e1, cu1, cu2⟩ := at2 HB5.out HC.out q (by rw [HNn.out]; exact hqk)
                    rw [hvl] at e1
                    obtain ⟨rfl, rfl⟩ := Prod.mk.inj e1
                    have HV := Lib.hid hvl
                    clear e1 hvl
                    have hbx : Below w1.heap.size w1 (wr.alloc (.cells #[.int .i64 v, .int .i64 l] 37)) := HB5.out.alloc hz5 _
                    have HBx := Lib.hid hbx
                    have hEa := HA.out w hw3 i hil
                    have hEb := HA.out v hv3 l hll
                    have HL := Lib.hid (And.intro hEa.1 hEb.1)
                    clear hbx x0 x1 hEa hEb
                    go_wp2_with fail
                    refine (pairValid_c F _ w i v l _ (H1.out.below HBx.out) HS.out hw3 hil hv3 hll HL.out.1 HL.out.2).mono ?_
                    rintro e w2 ⟨rfl, hb2⟩
                    have HB6 := Lib.hid (HBq.out.trans (((Below.refl wr.heap.size wr).alloc (Nat.le_refl _) (.cells #[.int .i64 v, .int .i64 l] 37)).mono HBq.out.size |>.trans (hb2.mono (by have := HBq.out.size; simp; omega))))
                    have HB7 := Lib.hid (HBx.out.trans (hb2.mono HBx.out.size))
                    clear hb2 HBx cu1 cu2
                    by_cases hpv : PairOk F w i v l
                    · rw [pvB_t hpv]
                      have HE := Lib.hid hpv
                      clear hpv
                      go_wp2
                      go_roundw
                      case rel =>
                        refine ⟨q + 1, by omega, by go_num, HB6.out, fun j' v' l' hj he => ?_⟩
                        by_cases e : j' = q
                        · subst e
                          rw [HV.out] at he
                          obtain ⟨e1, e2⟩ := Prod.mk.inj he
                          obtain rfl : v = v' := by omega
                          obtain rfl : l = l' := by omega
                          exact HE.out
                        · exact HQQ.out j' v' l' (by omega) he
                      case measure => simp [intOf]; omega
                    · rw [pvB_f hpv]
                      have HE := Lib.hid hpv
                      clear hpv
                      go_wp2
                      go_ret
                      exact ⟨ret_b (jvB_f fun hh => HE.out (hh.2.2.2 w hw3 i hil v hv3 l hll)).symm, HB1.out.trans (HB7.out.mono hz1)⟩
                  · obtain rfl : q = k := by omega
                    clear x0 x1
                    go_wp2
                    go_roundw
                    case rel =>
                      refine ⟨p + 1, by omega, by go_num, HB5.out, fun j j' w' i' v l hj hj' he he' => ?_⟩
                      by_cases e : j = p
                      · subst e
                        rw [HW.out] at he
                        obtain ⟨e1, e2⟩ := Prod.mk.inj he
                        obtain rfl : w = w' := by omega
                        obtain rfl : i = i' := by omega
                        exact HQQ.out j' v l hj' he'
                      · exact HP.out j j' w' i' v l (by omega) hj' he he'
                    case measure => simp [intOf]; omega
              · obtain rfl : p = k := by omega
                have hT := Lib.hid (show JV F from ⟨HF.out, HS.out.2, HA.out, fun w hw i hi v hv l hl => by
                  obtain ⟨j, hj, e⟩ := rfs_ix hw hi
                  obtain ⟨j', hj', e'⟩ := rfs_ix hv hl
                  rw [HNn.out] at hj hj'
                  exact HP.out j j' w i v l hj hj' e e'⟩)
                go_wp2
                go_ret
                exact ⟨ret_b (jvB_t hT.out).symm, HB1.out.trans (HBr.out.mono hz1)⟩
  · have hne : ((F.length : Int) == 3) = false := by rw [beq_eq_false_iff_ne]; omega
    have HN := Lib.hid h3
    clear h h3
    go_enter Try.func15, Try.ntmps15
    go_wp2
    go_ret
    exact ⟨ret_b (jvB_f fun hh => HN.out hh.1).symm, Below.refl _ _⟩
end Go.Proofs.Ythnepmhkeceadaa
