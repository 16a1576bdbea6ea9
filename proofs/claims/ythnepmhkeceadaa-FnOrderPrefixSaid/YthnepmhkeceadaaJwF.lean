/- Walks: whether places exist, and JoinSees. -/
import Derived.Test.YthnepmhkeceadaaJwE
namespace Go.Proofs.Ythnepmhkeceadaa
open Go.RowKit
def RefIn (F : Fd) (x y : Int) : Prop := 0 ≤ x ∧ x ≤ 2 ∧ 0 ≤ y ∧ y < (ln F x.toNat : Int)
open Classical in
noncomputable def riB (F : Fd) (x y : Int) : Bool := decide (RefIn F x y)
theorem riB_t {F : Fd} {x y : Int} (h : RefIn F x y) : riB F x y = true := by unfold riB; simp [h]
theorem riB_f {F : Fd} {x y : Int} (h : ¬ RefIn F x y) : riB F x y = false := by unfold riB; simp [h]
def JS (F : Fd) (aw ai bw bi : Int) : Prop := JV F ∧ RefIn F aw ai ∧ RefIn F bw bi ∧ ¬ (aw = bw ∧ ai = bi) ∧ bi < ck F aw.toNat ai.toNat bw.toNat
open Classical in
noncomputable def jsB (F : Fd) (aw ai bw bi : Int) : Bool := decide (JS F aw ai bw bi)
theorem jsB_t {F : Fd} {aw ai bw bi : Int} (h : JS F aw ai bw bi) : jsB F aw ai bw bi = true := by unfold jsB; simp [h]
theorem jsB_f {F : Fd} {aw ai bw bi : Int} (h : ¬ JS F aw ai bw bi) : jsB F aw ai bw bi = false := by unfold jsB; simp [h]
theorem jsB_in {F : Fd} {w i v k : Nat} (h : JV F) (h1 : RefIn F w i) (h2 : RefIn F v k) : jsB F w i v k = seesB F w i v k := by
  by_cases hs : ¬ (w = v ∧ i = k) ∧ (k : Int) < ck F w i v
  · rw [seesB_t hs.1 hs.2, jsB_t ⟨h, h1, h2, fun e => hs.1 (by omega), by simpa using hs.2⟩]
  · have e1 : seesB F w i v k = false := seesB_f (by
      by_cases e : w = v ∧ i = k
      · exact .inl e
      · exact .inr (Int.not_lt.1 fun h => hs ⟨e, h⟩))
    rw [e1, jsB_f fun hh => hs ⟨fun e => hh.2.2.2.1 (by omega), by simpa using hh.2.2.2.2⟩]
set_option maxHeartbeats 1600000 in
theorem isRef_c {S : Nat → Prop} (F : Fd) (fv : Value) (x y : Int) (W : World) (h : RdF S W fv F) (hF : F.length = 3) (h8 : ∀ w, w < 3 → ln F w ≤ 8) :
    Calls Try.prog 47 #[fv, .agg #[.int .i64 x, .int .i64 y]] W (SeesPost (riB F x y) W) := by
  have hsh := h.shape
  obtain ⟨a, cap, rfl, h1, h2⟩ := hsh
  unfold maxLen at h2
  rw [hF] at h h1 ⊢
  by_cases hx : 0 ≤ x ∧ x ≤ 2
  · obtain ⟨x0, x1⟩ := hx
    obtain ⟨w, rfl⟩ := Int.eq_ofNat_of_zero_le x0
    have hw : w < 3 := by omega
    obtain ⟨b, off, c', a2, c2, ev, -, -, q1, q2, q3, -⟩ := h.feed (j := w) (by rw [hF]; exact hw)
    simp only [Value.slice.injEq] at ev
    obtain ⟨rfl, -, rfl⟩ := ev
    unfold maxLen at q3
    have z1 : b < W.heap.size := World.block_lt_of_cell? W _ q1
    have hl := h8 w hw
    have hs1 : IntKind.i64.wrap ((ln F w : Int) - 1) = (ln F w : Int) - 1 := by rw [IntKind.wrap_i64]; omega
    have hs2 : IntKind.i64.wrap ((3 : Int) - 1) = 2 := by decide
    have hw3 : (w : Int) < 3 := by omega
    clear h hF
    by_cases hy : 0 ≤ y ∧ y ≤ (ln F w : Int) - 1
    · obtain ⟨y0, y1⟩ := hy
      have ht := Lib.hid (riB_t (F := F) (x := w) (y := y) ⟨x0, x1, y0, by simp only [Int.toNat_natCast]; omega⟩)
      go_enter Try.func47, Try.ntmps47
      go_wp2
      go_quiet ((first | exact within_qt _ _ _ _ _ x0 x1 | exact within_qt _ _ _ _ _ y0 y1))
      go_wp2
      go_ret
      exact ⟨ret_b ht.out.symm, by (repeat' (first | exact Below.refl _ _ | assumption | refine Below.drew ?_ | refine below_drewN ?_ _ | refine Below.alloc ?_ (by omega) _ | refine Below.alloc ?_ (by simp; omega) _ | refine Below.alloc ?_ (by simp) _ | refine Below.setCell ?_ (by omega) _ | refine Below.setCell ?_ (by simp; omega) _ | refine Below.setCell ?_ (by simp) _))⟩
    · have hy' : y < 0 ∨ (ln F w : Int) - 1 < y := by omega
      have ht := Lib.hid (riB_f (F := F) (x := w) (y := y) (fun hh => by have h3 := hh.2.2.1; have h4 := hh.2.2.2; simp only [Int.toNat_natCast] at h4; omega))
      clear hy
      go_enter Try.func47, Try.ntmps47
      go_wp2
      go_quiet ((first | exact within_qt _ _ _ _ _ x0 x1 | exact within_qf _ _ _ _ _ hy'))
      go_wp2
      go_ret
      exact ⟨ret_b ht.out.symm, by (repeat' (first | exact Below.refl _ _ | assumption | refine Below.drew ?_ | refine below_drewN ?_ _ | refine Below.alloc ?_ (by omega) _ | refine Below.alloc ?_ (by simp; omega) _ | refine Below.alloc ?_ (by simp) _ | refine Below.setCell ?_ (by omega) _ | refine Below.setCell ?_ (by simp; omega) _ | refine Below.setCell ?_ (by simp) _))⟩
  · have hx' : x < 0 ∨ 2 < x := by omega
    have ht := Lib.hid (riB_f (F := F) (x := x) (y := y) (fun hh => hx ⟨hh.1, hh.2.1⟩))
    have hs2 : IntKind.i64.wrap ((3 : Int) - 1) = 2 := by decide
    clear hx h hF
    go_enter Try.func47, Try.ntmps47
    go_wp2
    go_quiet ((first | exact within_qf _ _ _ _ _ hx'))
    go_wp2
    go_ret
    exact ⟨ret_b ht.out.symm, by (repeat' (first | exact Below.refl _ _ | assumption | refine Below.drew ?_ | refine below_drewN ?_ _ | refine Below.alloc ?_ (by omega) _ | refine Below.alloc ?_ (by simp; omega) _ | refine Below.alloc ?_ (by simp) _ | refine Below.setCell ?_ (by omega) _ | refine Below.setCell ?_ (by simp; omega) _ | refine Below.setCell ?_ (by simp) _))⟩
set_option maxHeartbeats 1600000 in
theorem joinSees_c {S : Nat → Prop} (F : Fd) (fv : Value) (aw ai bw bi : Int) (W : World) (h : RdF S W fv F) :
    Calls Try.prog 16 #[fv, .agg #[.int .i64 aw, .int .i64 ai], .agg #[.int .i64 bw, .int .i64 bi]] W (SeesPost (jsB F aw ai bw bi) W) := by
  have hB0 : Below W.heap.size W ((W.alloc (.cells #[.int .i64 aw, .int .i64 ai] 37)).alloc (.cells #[.int .i64 bw, .int .i64 bi] 37)) := by (repeat' (first | exact Below.refl _ _ | assumption | refine Below.drew ?_ | refine below_drewN ?_ _ | refine Below.alloc ?_ (by omega) _ | refine Below.alloc ?_ (by simp; omega) _ | refine Below.alloc ?_ (by simp) _ | refine Below.setCell ?_ (by omega) _ | refine Below.setCell ?_ (by simp; omega) _ | refine Below.setCell ?_ (by simp) _))
  have H := Lib.hid h
  have HB := Lib.hid hB0
  have hz0 := hB0.size
  clear h hB0
  by_cases hj : JV F
  · have HJ := Lib.hid hj
    clear hj
    go_enter Try.func16, Try.ntmps16
    go_wp2_with fail
    refine (joinValid_c F _ _ (H.out.below HB.out)).mono ?_
    rintro e w1 ⟨rfl, hb1⟩
    rw [jvB_t HJ.out]
    have x0 := cell_keep hb1 (show _ = some (.int .i64 aw) by simp) (a := ⟨W.heap.size, 0, none⟩)
    have x1 := cell_keep hb1 (show _ = some (.int .i64 ai) by simp) (a := ⟨W.heap.size, 1, none⟩)
    have y0 := cell_keep hb1 (show _ = some (.int .i64 bw) by simp) (a := ⟨W.heap.size + 1, 0, none⟩)
    have y1 := cell_keep hb1 (show _ = some (.int .i64 bi) by simp) (a := ⟨W.heap.size + 1, 1, none⟩)
    have HB1 := Lib.hid (HB.out.trans (hb1.mono hz0))
    clear hb1
    go_wp2_with fail
    refine (isRef_c F _ aw ai _ (H.out.below HB1.out) HJ.out.1 HJ.out.2.1).mono ?_
    rintro e w2 ⟨rfl, hb2⟩
    have x0 := cell_keep hb2 x0
    have x1 := cell_keep hb2 x1
    have y0 := cell_keep hb2 y0
    have y1 := cell_keep hb2 y1
    have HB2 := Lib.hid (HB1.out.trans (hb2.mono HB1.out.size))
    clear hb2 HB1
    by_cases h1 : RefIn F aw ai
    · rw [riB_t h1]
      have H1 := Lib.hid h1
      clear h1
      go_wp2_with fail
      refine (isRef_c F _ bw bi _ (H.out.below HB2.out) HJ.out.1 HJ.out.2.1).mono ?_
      rintro e w3 ⟨rfl, hb3⟩
      have x0 := cell_keep hb3 x0
      have x1 := cell_keep hb3 x1
      have y0 := cell_keep hb3 y0
      have y1 := cell_keep hb3 y1
      have HB3 := Lib.hid (HB2.out.trans (hb3.mono HB2.out.size))
      clear hb3 HB2
      by_cases h2 : RefIn F bw bi
      · rw [riB_t h2]
        have H2 := Lib.hid h2
        clear h2
        obtain ⟨w, hw⟩ := Int.eq_ofNat_of_zero_le H1.out.1
        obtain ⟨i, hi⟩ := Int.eq_ofNat_of_zero_le H1.out.2.2.1
        obtain ⟨v, hv⟩ := Int.eq_ofNat_of_zero_le H2.out.1
        obtain ⟨k, hk⟩ := Int.eq_ofNat_of_zero_le H2.out.2.2.1
        subst hw hi hv hk
        have HW : Hid ((w < 3 ∧ i < ln F w) ∧ v < 3 ∧ k < ln F v) := by
          have g1 := H1.out.2.1; have g2 := H1.out.2.2.2; have g3 := H2.out.2.1; have g4 := H2.out.2.2.2
          simp only [Int.toNat_natCast] at g2 g4
          exact ⟨⟨by omega, by omega⟩, by omega, by omega⟩
        go_wp2_with fail
        refine (sees_c F _ w i v k _ (H.out.below HB3.out) (by rw [HJ.out.1]; exact HW.out.1.1) HW.out.1.2 (by rw [(HJ.out.2.2.1 w HW.out.1.1 i HW.out.1.2).1]; exact HW.out.2.1)).mono ?_
        rintro e w4 ⟨rfl, hb4⟩
        have HB4 := Lib.hid (HB3.out.trans (hb4.mono HB3.out.size))
        have HX := Lib.hid (jsB_in HJ.out H1.out H2.out)
        obtain ⟨r, hr⟩ : ∃ r, seesB F w i v k = r := ⟨_, rfl⟩
        rw [hr]
        have HR := Lib.hid hr
        clear hb4 hr x0 x1 y0 y1
        go_wp2
        go_ret
        exact ⟨ret_b (by rw [HX.out, HR.out]), HB4.out⟩
      · rw [riB_f h2]
        have H2 := Lib.hid h2
        clear h2
        go_wp2
        go_ret
        exact ⟨ret_b (jsB_f fun hh => H2.out hh.2.2.1).symm, HB3.out⟩
    · rw [riB_f h1]
      have H1 := Lib.hid h1
      clear h1
      go_wp2
      go_ret
      exact ⟨ret_b (jsB_f fun hh => H1.out hh.2.1).symm, HB2.out⟩
  · have HJ := Lib.hid hj
    clear hj
    go_enter Try.func16, Try.ntmps16
    go_wp2_with fail
    refine (joinValid_c F _ _ (H.out.below HB.out)).mono ?_
    rintro e w1 ⟨rfl, hb1⟩
    rw [jvB_f HJ.out]
    go_wp2
    go_ret
    exact ⟨ret_b (jsB_f fun hh => HJ.out hh.1).symm, HB.out.trans (hb1.mono hz0)⟩
end Go.Proofs.Ythnepmhkeceadaa
