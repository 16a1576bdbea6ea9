/- Walks: JoinAppend of the reference. -/
import Derived.Test.YthnepmhkeceadaaJwL
import Derived.Deep.RegionLaw
namespace Go.Proofs.Ythnepmhkeceadaa
open Go.RowKit
def AppArgs (F : Fd) (w : Int) (ks : List Int) (key val : Int) : Prop :=
  JV F ∧ (0 ≤ w ∧ w ≤ 2) ∧ ks.length = 3 ∧ (0 ≤ key ∧ key ≤ 9) ∧ (0 ≤ val ∧ val ≤ 99) ∧ ln F w.toNat < 8 ∧ ∀ v, v < 3 → 0 ≤ ks.getD v 0 ∧ ks.getD v 0 ≤ (ln F v : Int)
open Classical in
noncomputable def jaF (F : Fd) (w : Int) (ks : List Int) (key val : Int) : Fd := if AppArgs F w ks key val then app F w.toNat (newc F w.toNat (kf F w.toNat ks), key, val) else []
open Classical in
noncomputable def jaB (F : Fd) (w : Int) (ks : List Int) (key val : Int) : Bool := decide (AppArgs F w ks key val)
theorem jaF_t {F : Fd} {w : Int} {ks : List Int} {key val : Int} (h : AppArgs F w ks key val) : jaF F w ks key val = app F w.toNat (newc F w.toNat (kf F w.toNat ks), key, val) := by unfold jaF; rw [if_pos h]
theorem jaF_f {F : Fd} {w : Int} {ks : List Int} {key val : Int} (h : ¬ AppArgs F w ks key val) : jaF F w ks key val = [] := by unfold jaF; rw [if_neg h]
theorem jaB_t {F : Fd} {w : Int} {ks : List Int} {key val : Int} (h : AppArgs F w ks key val) : jaB F w ks key val = true := by unfold jaB; simp [h]
theorem jaB_f {F : Fd} {w : Int} {ks : List Int} {key val : Int} (h : ¬ AppArgs F w ks key val) : jaB F w ks key val = false := by unfold jaB; simp [h]
def JaPost (F : Fd) (w : Int) (ks : List Int) (key val : Int) (W : World) (e : Ending) (W' : World) : Prop :=
  ∃ v, e = .returned (.tuple #[v, .bool (jaB F w ks key val)]) ∧ OwnF (fun b => W.heap.size ≤ b) W' v (jaF F w ks key val) ∧ Below W.heap.size W W'
theorem ret_vb {v : Value} {a b : Bool} (h : a = b) : Ending.returned (.tuple #[v, .bool a]) = .returned (.tuple #[v, .bool b]) := by rw [h]
theorem JaPost.no {F : Fd} {w : Int} {ks : List Int} {key val : Int} {W wx : World} (h : ¬ AppArgs F w ks key val) (hb : Below W.heap.size W wx) :
    JaPost F w ks key val W (.returned (.tuple #[.slice (some ⟨wx.heap.size, 0, none⟩) 0 0, .bool false])) (wx.alloc (.cells #[] 30)) := by
  refine ⟨_, by rw [jaB_f h], ?_, hb.alloc hb.size _⟩
  rw [jaF_f h]
  exact OwnF.nil (own_zero (own_empty wx W.heap.size 30 1 hb.size)) (fun b hb' => by simp [Value.ownBlock] at hb'; have := hb.size; omega)
theorem newc_lst3 (F : Fd) (w : Nat) (f : Nat → Int) : newc F w f = lst3 (upd1 (nw F f) w ((ln F w : Int) + 1)) := rfl
set_option maxHeartbeats 6400000 in
theorem specJoinAppend_no {S S' : Nat → Prop} (F : Fd) (fv : Value) (w : Int) (kv : Value) (ks : List Int) (key val : Int) (W : World) (h : RdF S W fv F) (hk : RdS S' 1 W kv ks.length (enc1 ks))
    (hne : ¬ (JV F ∧ (0 ≤ w ∧ w ≤ 2) ∧ ks.length = 3 ∧ (0 ≤ key ∧ key ≤ 9) ∧ (0 ≤ val ∧ val ≤ 99) ∧ ln F w.toNat < 8)) :
    Calls Try.prog 13 #[fv, .int .i64 w, kv, .int .i64 key, .int .i64 val] W (JaPost F w ks key val W) := by
  have H := Lib.hid h
  have NO := Lib.hid (show ¬ AppArgs F w ks key val from fun hh => hne ⟨hh.1, hh.2.1, hh.2.2.1, hh.2.2.2.1, hh.2.2.2.2.1, hh.2.2.2.2.2.1⟩)
  obtain ⟨ak, capk, rfl, n1, n2⟩ := hk.shape
  obtain ⟨a0, cap0, rfl, m1, m2⟩ := h.shape
  unfold maxLen at n2 m2
  clear h hk
  go_enter Try.func13, Try.ntmps13
  go_wp2_with fail
  refine (specJoinValid_c F _ _ H.out).mono ?_
  rintro e w1 ⟨rfl, hb1⟩
  have HB1 := Lib.hid hb1
  clear hb1
  by_cases hj : JV F
  · rw [jvB_t hj]
    by_cases hw : 0 ≤ w ∧ w ≤ 2
    · obtain ⟨x1, x2⟩ := hw
      go_wp2_with fail
      refine (l6In_t w 0 2 _ x1 x2).mono ?_
      rintro e _ ⟨rfl, rfl⟩
      by_cases h3 : ks.length = 3
      · have e3 : ((ks.length : Int) == 3) = true := by simp; omega
        have e3' : ((ks.length : Int) != 3) = false := by simp; omega
        by_cases hkey : 0 ≤ key ∧ key ≤ 9
        · obtain ⟨y1, y2⟩ := hkey
          go_wp2_with fail
          refine (l6In_t key 0 9 _ y1 y2).mono ?_
          rintro e _ ⟨rfl, rfl⟩
          by_cases hval : 0 ≤ val ∧ val ≤ 99
          · obtain ⟨z1, z2⟩ := hval
            go_wp2_with fail
            refine (l6In_t val 0 99 _ z1 z2).mono ?_
            rintro e _ ⟨rfl, rfl⟩
            have h8 : 8 ≤ ln F w.toNat := by
              rcases Nat.lt_or_ge (ln F w.toNat) 8 with h1 | h1
              · exact absurd ⟨hj, ⟨x1, x2⟩, h3, ⟨y1, y2⟩, ⟨z1, z2⟩, h1⟩ hne
              · exact h1
            obtain ⟨b5, o5, c5, a6, c6, ev, -, -, q5, q6, q7, -⟩ := (H.out.below HB1.out).feed (j := w.toNat) (by rw [hj.1]; omega)
            simp only [Value.slice.injEq] at ev
            obtain ⟨rfl, -, rfl⟩ := ev
            rw [show o5 + w.toNat = w.toNat + o5 by omega] at q5
            unfold maxLen at q7
            have hF := hj.1
            have hwl : w < (F.length : Int) := by omega
            have e4 : (8 : Int) ≤ (ln F w.toNat : Int) := by omega
            rw [Nat.add_comm] at q5
            clear hj hne h3
            go_wp2
            go_ret2
            exact JaPost.no NO.out HB1.out
          · have hv' : val < 0 ∨ 99 < val := by omega
            clear hval hne hj
            go_wp2_with fail
            refine (l6In_f val 0 99 _ hv').mono ?_
            rintro e _ ⟨rfl, rfl⟩
            clear hv'
            go_wp2
            go_ret2
            exact JaPost.no NO.out HB1.out
        · have hv' : key < 0 ∨ 9 < key := by omega
          clear hkey hne hj
          go_wp2_with fail
          refine (l6In_f key 0 9 _ hv').mono ?_
          rintro e _ ⟨rfl, rfl⟩
          clear hv'
          go_wp2
          go_ret2
          exact JaPost.no NO.out HB1.out
      · have e3 : ((ks.length : Int) == 3) = false := by rw [beq_eq_false_iff_ne]; omega
        have e3' : ((ks.length : Int) != 3) = true := by simp; omega
        clear h3 hne hj
        go_wp2
        go_ret2
        exact JaPost.no NO.out HB1.out
    · have hv' : w < 0 ∨ 2 < w := by omega
      clear hw hne hj
      go_wp2_with fail
      refine (l6In_f w 0 2 _ hv').mono ?_
      rintro e _ ⟨rfl, rfl⟩
      clear hv'
      go_wp2
      go_ret2
      exact JaPost.no NO.out HB1.out
  · rw [jvB_f hj]
    clear hj hne
    go_wp2
    go_ret2
    exact JaPost.no NO.out HB1.out
set_option maxHeartbeats 6400000 in
theorem specJoinAppend_ok {S S' : Nat → Prop} (F : Fd) (fv : Value) (w : Nat) (kv : Value) (ks : List Int) (key val : Int) (W : World) (h : RdF S W fv F) (hk : RdS S' 1 W kv 3 (enc1 ks))
    (hj : JV F) (hw : w < 3) (hk3 : ks.length = 3) (hkey : 0 ≤ key ∧ key ≤ 9) (hval : 0 ≤ val ∧ val ≤ 99) (h8 : ln F w < 8) :
    Calls Try.prog 13 #[fv, .int .i64 w, kv, .int .i64 key, .int .i64 val] W (JaPost F w ks key val W) := by
  have H := Lib.hid h
  have HK := Lib.hid hk
  have HJ := Lib.hid hj
  have HK3 := Lib.hid hk3
  have HKV := Lib.hid (And.intro hkey hval)
  obtain ⟨ak, capk, rfl, n1, n2⟩ := hk.shape
  obtain ⟨a0, cap0, rfl, m1, m2⟩ := h.shape
  have hF := hj.1
  rw [hF] at m1 H ⊢
  unfold maxLen at n2 m2
  clear h hk hj hk3 hF
  obtain ⟨y1, y2⟩ := hkey
  obtain ⟨z1, z2⟩ := hval
  have hw0 : (0 : Int) ≤ (w : Int) := by omega
  have hw2 : (w : Int) ≤ 2 := by omega
  go_enter Try.func13, Try.ntmps13
  go_wp2_with fail
  refine (specJoinValid_c F _ _ H.out).mono ?_
  rintro e w1 ⟨rfl, hb1⟩
  have HB1 := Lib.hid hb1
  clear hb1
  rw [jvB_t HJ.out]
  go_wp2_with fail
  refine (l6In_t w 0 2 _ hw0 hw2).mono ?_
  rintro e _ ⟨rfl, rfl⟩
  go_wp2_with fail
  refine (l6In_t key 0 9 _ y1 y2).mono ?_
  rintro e _ ⟨rfl, rfl⟩
  go_wp2_with fail
  refine (l6In_t val 0 99 _ z1 z2).mono ?_
  rintro e _ ⟨rfl, rfl⟩
  obtain ⟨b5, o5, c5, a6, c6, ev, -, -, q5, q6, q7, -⟩ := (H.out.below HB1.out).feed (j := w) (by rw [HJ.out.1]; exact hw)
  rw [HJ.out.1] at ev
  simp only [Value.slice.injEq] at ev
  obtain ⟨rfl, -, rfl⟩ := ev
  unfold maxLen at q7
  have e4 : (ln F w : Int) < 8 := by omega
  have hw3 : (w : Int) < 3 := by omega
  clear y1 y2 z1 z2
  go_wp2
  go_loopw [12] (fun i' wr => ∃ v : Nat, v ≤ 3 ∧ i' = .int .i64 v ∧ Hid (Below w1.heap.size w1 wr) ∧ Hid (∀ u, u < v → 0 ≤ ks.getD u 0 ∧ ks.getD u 0 ≤ (ln F u : Int))) (fun i' _ => 3 - (intOf i').toNat)
  case atStart => exact ⟨0, by omega, rfl, Below.refl _ _, fun u hu => absurd hu (Nat.not_lt_zero _)⟩
  case round =>
    clear q5
    obtain ⟨v, hv, rfl, HBr, HN⟩ := hrel
    obtain ⟨wo, rfl⟩ : ∃ wo : World, wo = wr := ⟨_, rfl⟩
    have HBW := Lib.hid (HB1.out.trans (HBr.out.mono HB1.out.size))
    by_cases hlt : v < 3
    · have hlt' : (v : Int) < 3 := by omega
      obtain ⟨b9, o9, c9, y, ev, -, -, q9, HY⟩ := HK.out.num2 HK3.out hlt
      simp only [Value.slice.injEq] at ev
      obtain ⟨rfl, -, rfl⟩ := ev
      have q9 := cell_keep HBW.out q9
      obtain ⟨b6, o6, c6', a7, c7, ev, -, -, q5, q6', q7', -⟩ := (H.out.below HBW.out).feed (j := v) (by rw [HJ.out.1]; exact hlt)
      rw [HJ.out.1] at ev
      simp only [Value.slice.injEq, Option.some.injEq, Addr.mk.injEq, and_true] at ev
      obtain ⟨⟨rfl, rfl⟩, -, rfl⟩ := ev
      unfold maxLen at q7'
      have HD : Hid (∀ n, Below w1.heap.size w1 (wo.drewN n)) := fun n => by have := HBr.out; (repeat' (first | exact Below.refl _ _ | assumption | refine Below.drew ?_ | refine below_drewN ?_ _ | refine Below.alloc ?_ (by omega) _ | refine Below.alloc ?_ (by simp; omega) _ | refine Below.alloc ?_ (by simp) _ | refine Below.setCell ?_ (by omega) _ | refine Below.setCell ?_ (by simp; omega) _ | refine Below.setCell ?_ (by simp) _))
      by_cases hy : 0 ≤ y ∧ y ≤ (ln F v : Int)
      · obtain ⟨k1, k2⟩ := hy
        have HN' : Hid (∀ u, u < v + 1 → 0 ≤ ks.getD u 0 ∧ ks.getD u 0 ≤ (ln F u : Int)) := fun u hu => by
          by_cases e : u = v
          · subst e; rw [HY.out]; exact ⟨k1, k2⟩
          · exact HN.out u (by omega)
        go_wp2
        go_quiet ((exact l6In_qt _ _ _ _ _ (by assumption) (by assumption)))
        go_wp2
        go_roundw
        case rel => exact ⟨v + 1, by omega, by go_num, HD.out _, HN'⟩
        case measure => simp [intOf]; omega
      · have hy' : y < 0 ∨ (ln F v : Int) < y := by omega
        have NO := Lib.hid (show ¬ AppArgs F w ks key val from fun hh => by have := hh.2.2.2.2.2.2 v hlt; rw [HY.out] at this; exact hy this)
        clear hy
        go_wp2
        go_quiet ((exact l6In_qf _ _ _ _ _ hy'))
        clear hy'
        go_wp2
        go_ret2
        exact JaPost.no NO.out (HB1.out.trans ((HD.out _).mono HB1.out.size))
    · obtain rfl : v = 3 := by omega
      have OK := Lib.hid (show AppArgs F w ks key val from ⟨HJ.out, ⟨hw0, hw2⟩, HK3.out, HKV.out.1, HKV.out.2, by simpa using h8, HN.out⟩)
      go_wp2_with fail
      refine (l31Know_c F _ _ w ks _ (H.out.below HBW.out) HJ.out hw (HK.out.below HBW.out) HK3.out HN.out).mono ?_
      rintro e w5 ⟨cv, rfl, hown5, hb5⟩
      have HB5 := Lib.hid (HBW.out.trans (hb5.mono HBW.out.size))
      obtain ⟨b, cap, rfl, g1, g2, g3, g4, hcell⟩ := own_three hown5 rfl
      unfold maxLen at g4
      have hcw := hcell w hw
      have hst := (hown5.stored w (.int .i64 ((ln F w : Int) + 1))).1
      rw [← lst3_set _ hw] at hst
      have HST := Lib.hid hst
      obtain ⟨b6, o6, c6', a7, c7, ev, -, -, q5, q6', q7', -⟩ := (H.out.below HB5.out).feed (j := w) (by rw [HJ.out.1]; exact hw)
      rw [HJ.out.1] at ev
      simp only [Value.slice.injEq, Option.some.injEq, Addr.mk.injEq, and_true] at ev
      obtain ⟨⟨rfl, rfl⟩, -, rfl⟩ := ev
      have cw := hcw.1
      have fw := hcw.2
      have hwr : IntKind.i64.wrap ((ln F w : Int) + 1) = (ln F w : Int) + 1 := by rw [IntKind.wrap_i64]; omega
      have hbn : b ≠ w5.heap.size := by omega
      have z5 : b5 < w5.heap.size := World.block_lt_of_cell? w5 _ q5
      have hWb : W.heap.size ≤ b := Nat.le_trans HBW.out.size g1
      obtain ⟨w6, hw6⟩ : ∃ w6, w6 = w5.alloc (.cells #[.slice (some ⟨b, 0, none⟩) 3 cap, .int .i64 key, .int .i64 val] 32) := ⟨_, rfl⟩
      have hb6 : Below W.heap.size W w6 := by rw [hw6]; exact HB5.out.alloc HB5.out.size _
      have hb56 : Below w5.heap.size w5 w6 := by rw [hw6]; exact (Below.refl _ _).alloc (Nat.le_refl _) _
      have x0 : w6.cell? ⟨w5.heap.size, 0, none⟩ = some (.slice (some ⟨b, 0, none⟩) 3 cap) := by rw [hw6]; simp
      have x1 : w6.cell? ⟨w5.heap.size, 1, none⟩ = some (.int .i64 key) := by rw [hw6]; simp
      have x2 : w6.cell? ⟨w5.heap.size, 2, none⟩ = some (.int .i64 val) := by rw [hw6]; simp
      have q5 := cell_keep hb56 q5
      have cw := cell_keep hb56 cw
      have fw : w6.frozen? ⟨b, w, none⟩ = false := (hb56.frozen (p := ⟨b, w, none⟩) g2).trans fw
      have hz6 : w6.heap.size = w5.heap.size + 1 := by rw [hw6]; simp
      have HW6 := Lib.hid hw6
      have HZ6 := Lib.hid hz6
      have HST6 : Hid ((w6.setCell ⟨b, w, none⟩ (.int .i64 ((ln F w : Int) + 1))).ownsRow 0 3 1 (.slice (some ⟨b, 0, none⟩) 3 cap) 3 (enc1 (newc F w (kf F w ks)))) := by
        have := (own_below (own_zero hown5) hb56).stored w (.int .i64 ((ln F w : Int) + 1))
        have := this.1
        rw [← lst3_set _ hw] at this
        exact this
      clear hcell hown5 hb5 hst HST hcw q6' q7' hw6 hz6 hb56
      go_wp2
      rw [← HW6.out]
      go_still_tail 10, (by kernel_rfl)
      go_wp2_with fail
      obtain ⟨w7, hw7⟩ : ∃ w7, w7 = (w6.setCell ⟨b, w, none⟩ (.int .i64 ((ln F w : Int) + 1))).drew := ⟨_, rfl⟩
      rw [← hw7]
      have hb7 : Below W.heap.size W w7 := by rw [hw7]; exact (hb6.setCell hWb _).drew
      have hne : ∀ o, (⟨b, w, none⟩ : Addr) ≠ ⟨w5.heap.size, o, none⟩ := fun o h => by simp at h <;> omega
      have x0 : w7.cell? ⟨w5.heap.size, 0, none⟩ = some (.slice (some ⟨b, 0, none⟩) 3 cap) := by rw [hw7]; exact (World.cell?_setCell_other _ _ _ _ (hne _)).trans x0
      have x1 : w7.cell? ⟨w5.heap.size, 1, none⟩ = some (.int .i64 key) := by rw [hw7]; exact (World.cell?_setCell_other _ _ _ _ (hne _)).trans x1
      have x2 : w7.cell? ⟨w5.heap.size, 2, none⟩ = some (.int .i64 val) := by rw [hw7]; exact (World.cell?_setCell_other _ _ _ _ (hne _)).trans x2
      have HST7 : Hid (w7.ownsRow 0 3 1 (.slice (some ⟨b, 0, none⟩) 3 cap) 3 (enc1 (newc F w (kf F w ks)))) := by rw [hw7]; exact own_below HST6.out (Below.refl _ _).drew
      have hz7 : w7.heap.size = w5.heap.size + 1 := by rw [hw7, ← HZ6.out]; first | rfl | simp
      clear hw7 cw fw q5 hne HST6 hb6
      refine (l31Copy_c F _ w7 (H.out.below hb7) HJ.out).mono ?_
      rintro e w8 ⟨vc, rfl, hF8, hb8⟩
      obtain ⟨g, cap8, rv, T, rfl, gle, gcm, gsz, hSg, crow, frow, hOR, hT, -, close⟩ := hF8.row (j := w) (by rw [HJ.out.1]; exact hw)
      rw [HJ.out.1] at gle close ⊢
      unfold maxLen at gcm
      obtain ⟨es, hes⟩ : ∃ es, F.getD w [] = es := ⟨_, rfl⟩
      have hel : es.length = ln F w := by rw [← hes]; rfl
      rw [hes] at hOR
      obtain ⟨ar, capr, hrv⟩ := hOR.slice
      rw [hel] at hrv
      subst hrv
      have x0 := cell_keep hb8 x0
      have x1 := cell_keep hb8 x1
      have x2 := cell_keep hb8 x2
      have HST8 := Lib.hid (own_below HST7.out hb8)
      have hb8W := hb7.trans (hb8.mono hb7.size)
      have hbd : ∀ k, (Value.slice (some ⟨b, 0, none⟩) 3 cap).ownBlock = some k → ¬ T k := fun k hk hh => by
        have := (hT k hh).1
        simp [Value.ownBlock] at hk
        omega
      have hrb : ∀ k, (Value.slice ar (ln F w) capr).ownBlock = some k → T k := fun k hk => (hOR.blk k hk).1
      have JF : ∀ (X w91 : World) (v91 : Value), Below w8.heap.size w8 X → X.grownBy w91 (Value.slice ar (ln F w) capr).ownBlock → OwnR (fun k => T k ∨ (Value.slice (some ⟨b, 0, none⟩) 3 cap).ownBlock = some k ∨ k = X.heap.size) w91 v91 (es ++ [(newc F w (kf F w ks), key, val)]) →
          w91.cell? ⟨g, w, none⟩ = some (.slice ar (ln F w) capr) ∧ w91.frozen? ⟨g, w, none⟩ = false ∧ Hid (OwnF (fun k => W.heap.size ≤ k) (w91.setCell ⟨g, w, none⟩ v91) (.slice (some ⟨g, 0, none⟩) 3 cap8) (jaF F w ks key val) ∧ Below W.heap.size W (w91.setCell ⟨g, w, none⟩ v91)) := by
        intro X w91 v91 hbX hg ho
        have hgr : some g ≠ (Value.slice ar (ln F w) capr).ownBlock := fun e => (hT g (hrb g e.symm)).2 rfl
        have hbX8 := hbX.size
        refine ⟨grown_cell hg (cell_keep hbX crow) hgr, (grown_frozen hg (Nat.lt_of_lt_of_le gsz hbX8) hgr).trans ((hbX.frozen (p := ⟨g, w, none⟩) gsz).trans frow), ?_, ?_⟩
        · have := close w91 v91 (es ++ [(newc F w (kf F w ks), key, val)]) (fun k => k = b ∨ k = X.heap.size) ((Chg.of_below hbX T).trans ((Chg.of_grown hg).mono fun k _ hk => hrb k hk)) (ho.sub fun k _ hk => by
            rcases hk with hk | hk | hk
            · exact .inl hk
            · simp [Value.ownBlock] at hk; exact .inr (.inl hk.symm)
            · exact .inr (.inr hk)) (fun k hk hh => by
            rcases hk with hk | hk
            · subst hk; have := hh.1; omega
            · subst hk; have := hh.2; omega)
          rw [jaF_t OK.out, Int.toNat_natCast]
          unfold app
          rw [hes]
          refine this.sub fun k _ hk => ?_
          have h7 := hb7.size
          have h8 := hb8.size
          rcases hk with hk | hk | hk <;> omega
        · refine ((hb8W.trans (hbX.mono hb8W.size)).grown hg (Nat.le_trans hb8W.size hbX8) (fun k hk => ?_)).setCell ?_ _
          · have := (hT k (hrb k hk)).1
            have := hb7.size
            omega
          · show W.heap.size ≤ g
            have := hb7.size
            omega
      have HJF := Lib.hid JF
      have HOR := Lib.hid hOR
      have HBD := Lib.hid hbd
      have hen : es.length ≤ 1099511627776 := by rw [hel]; omega
      have HEL := Lib.hid (show (es ++ [(newc F w (kf F w ks), key, val)]).length = ln F w + 1 by rw [List.length_append, hel]; rfl)
      clear JF hOR hbd close hT hes hel hSg hrb hF8 hb7 hb8 HST7
      go_wp2
      go_region_law (refine step_pushE (T := T) _ rfl (.tmp 87) (.tmp 89) 30 rfl Try.underlying30 (.slice ar (ln F w) capr) es rfl (OwnR.below HOR.out (by (repeat' (first | exact Below.refl _ _ | assumption | refine Below.drew ?_ | refine below_drewN ?_ _ | refine Below.alloc ?_ (by omega) _ | refine Below.alloc ?_ (by simp; omega) _ | refine Below.alloc ?_ (by simp) _ | refine Below.setCell ?_ (by omega) _ | refine Below.setCell ?_ (by simp; omega) _ | refine Below.setCell ?_ (by simp) _)))) (.slice (some ⟨b, 0, none⟩) 3 cap) (newc F w (kf F w ks)) key val (own_below HST8.out (by (repeat' (first | exact Below.refl _ _ | assumption | refine Below.drew ?_ | refine below_drewN ?_ _ | refine Below.alloc ?_ (by omega) _ | refine Below.alloc ?_ (by simp; omega) _ | refine Below.alloc ?_ (by simp) _ | refine Below.setCell ?_ (by omega) _ | refine Below.setCell ?_ (by simp; omega) _ | refine Below.setCell ?_ (by simp) _)))) HBD.out w8.heap.size 1 rfl (by simp) (by simp) (by simp) hen ?_; intro v91 w91 ho91 hg91; obtain ⟨a91, cap91, hv91⟩ := ho91.slice; rw [HEL.out] at hv91; subst hv91; have R91 := HJF.out _ w91 _ (by (repeat' (first | exact Below.refl _ _ | assumption | refine Below.drew ?_ | refine below_drewN ?_ _ | refine Below.alloc ?_ (by omega) _ | refine Below.alloc ?_ (by simp; omega) _ | refine Below.alloc ?_ (by simp) _ | refine Below.setCell ?_ (by omega) _ | refine Below.setCell ?_ (by simp; omega) _ | refine Below.setCell ?_ (by simp) _))) hg91 ho91; have c91 := R91.1; have f91 := R91.2.1; have FIN := Lib.hid R91.2.2; clear R91 ho91 hg91)
      all_goals
        go_wp2
        go_ret2
        exact ⟨_, ret_vb (jaB_t OK.out).symm, FIN.out.out.1, FIN.out.out.2⟩
theorem specJoinAppend_c {S S' : Nat → Prop} (F : Fd) (fv : Value) (w : Int) (kv : Value) (ks : List Int) (key val : Int) (W : World) (h : RdF S W fv F) (hk : RdS S' 1 W kv ks.length (enc1 ks)) :
    Calls Try.prog 13 #[fv, .int .i64 w, kv, .int .i64 key, .int .i64 val] W (JaPost F w ks key val W) := by
  by_cases hh : JV F ∧ (0 ≤ w ∧ w ≤ 2) ∧ ks.length = 3 ∧ (0 ≤ key ∧ key ≤ 9) ∧ (0 ≤ val ∧ val ≤ 99) ∧ ln F w.toNat < 8
  · obtain ⟨hj, ⟨hw0, hw2⟩, h3, hkey, hval, h8⟩ := hh
    obtain ⟨n, rfl⟩ := Int.eq_ofNat_of_zero_le hw0
    rw [h3] at hk
    exact specJoinAppend_ok F fv n kv ks key val W h hk hj (by omega) h3 hkey hval (by simpa using h8)
  · exact specJoinAppend_no F fv w kv ks key val W h hk hh
end Go.Proofs.Ythnepmhkeceadaa
