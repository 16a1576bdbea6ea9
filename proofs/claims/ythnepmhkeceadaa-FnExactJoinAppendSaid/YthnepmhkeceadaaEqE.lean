/- Contracts on entries: equality of the same. -/
import Derived.Test.YthnepmhkeceadaaMkF
import Derived.Test.YthnepmhkeceadaaEq
namespace Go.Proofs.Ythnepmhkeceadaa
open Go.RowKit
attribute [local go_sem ↓] Go.wp_at_zero Go.wp_at_succ
def TruePost (W : World) (e : Ending) (W' : World) : Prop := e = .returned (.bool true) ∧ Below W.heap.size W W'
set_option maxHeartbeats 800000 in
theorem eqEntry_c {S S' : Nat → Prop} (va vb : Value) (en : Ent) (w : World) (ha : RdS S 1 w va en.1.length (enc1 en.1)) (hb : RdS S' 1 w vb en.1.length (enc1 en.1)) :
    Calls Try.prog 65 #[.agg #[va, .int .i64 en.2.1, .int .i64 en.2.2], .agg #[vb, .int .i64 en.2.1, .int .i64 en.2.2]] w (TruePost w) := by
  obtain ⟨a1, c1, e1, q1, q2⟩ := ha.shape
  obtain ⟨a2, c2, e2, q3, q4⟩ := hb.shape
  obtain ⟨key, hkey⟩ : ∃ L, en.2.1 = L := ⟨_, rfl⟩
  obtain ⟨val, hval⟩ : ∃ L, en.2.2 = L := ⟨_, rfl⟩
  rw [hkey, hval]
  have HA := Lib.hid ha
  have HB := Lib.hid hb
  subst e1 e2
  have hb0 : Below w.heap.size w ((w.alloc (.cells #[.slice a1 en.1.length c1, .int .i64 key, .int .i64 val] 32)).alloc (.cells #[.slice a2 en.1.length c2, .int .i64 key, .int .i64 val] 32)) := by (repeat' (first | exact Below.refl _ _ | assumption | refine Below.drew ?_ | refine below_drewN ?_ _ | refine Below.alloc ?_ (by omega) _ | refine Below.alloc ?_ (by simp; omega) _ | refine Below.alloc ?_ (by simp) _ | refine Below.setCell ?_ (by omega) _ | refine Below.setCell ?_ (by simp; omega) _ | refine Below.setCell ?_ (by simp) _))
  have H0 := Lib.hid hb0
  have hz0 := hb0.size
  clear ha hb hkey hval hb0
  go_enter Try.func65, Try.ntmps65
  go_wp2_with fail
  refine (eqIntS_c _ _ en.1 _ (HA.out.rd.below H0.out) (HB.out.rd.below H0.out)).mono ?_
  rintro e w1 ⟨rfl, hb1⟩
  have x1 := cell_keep hb1 (show _ = some (.int .i64 key) by simp) (a := ⟨w.heap.size, 1, none⟩)
  have x2 := cell_keep hb1 (show _ = some (.int .i64 val) by simp) (a := ⟨w.heap.size, 2, none⟩)
  have y1 := cell_keep hb1 (show _ = some (.int .i64 key) by simp) (a := ⟨w.heap.size + 1, 1, none⟩)
  have y2 := cell_keep hb1 (show _ = some (.int .i64 val) by simp) (a := ⟨w.heap.size + 1, 2, none⟩)
  have H1 := Lib.hid (H0.out.trans (hb1.mono hz0))
  clear hb1
  go_wp2
  go_ret
  exact ⟨rfl, H1.out⟩
set_option maxRecDepth 100000 in
set_option maxHeartbeats 1600000 in
theorem eqEntryS_c {S S' : Nat → Prop} (va vb : Value) (es : List Ent) (w : World) (ha : RdR S w va es) (hb : RdR S' w vb es) :
    Calls Try.prog 51 #[va, vb] w (TruePost w) := by
  obtain ⟨-, a1, c1, rfl, h1, m1, k1⟩ := ha
  obtain ⟨-, a2, c2, rfl, h2, m2, k2⟩ := hb
  have K1 := Lib.hid k1
  have K2 := Lib.hid k2
  unfold maxLen at m1 m2
  clear k1 k2
  go_enter Try.func51, Try.ntmps51
  go_wp2
  go_loopw [5] (fun i wr => ∃ k : Nat, k ≤ es.length ∧ i = .int .i64 k ∧ Hid (Below w.heap.size w wr)) (fun i _ => es.length - (intOf i).toNat)
  case atStart => exact ⟨0, Nat.zero_le _, rfl, Below.refl _ _⟩
  case round =>
    obtain ⟨k, hk, rfl, HB⟩ := hrel
    obtain ⟨wo, rfl⟩ : ∃ wo : World, wo = wr := ⟨_, rfl⟩
    have hsz := HB.out.size
    by_cases hlt : k < es.length
    · obtain ⟨b1, o1, rfl, g1⟩ := K1.out (by omega)
      obtain ⟨b2, o2, rfl, g2⟩ := K2.out (by omega)
      obtain ⟨cv1, ⟨-, d1⟩, r1, ⟨-, d2⟩, -, d3⟩ := g1 k hlt
      obtain ⟨cv2, ⟨-, d4⟩, r2, ⟨-, d5⟩, -, d6⟩ := g2 k hlt
      obtain ⟨en, hen⟩ : ∃ en, es.getD k e0 = en := ⟨_, rfl⟩
      rw [hen] at d2 d3 d5 d6 r1 r2
      have d1 := cell_keep HB.out d1
      have d2 := cell_keep HB.out d2
      have d3 := cell_keep HB.out d3
      have d4 := cell_keep HB.out d4
      have d5 := cell_keep HB.out d5
      have d6 := cell_keep HB.out d6
      have R1 := Lib.hid (r1.below HB.out)
      have R2 := Lib.hid (r2.below HB.out)
      obtain ⟨aq, cq, rfl, -, -⟩ := r1.shape
      obtain ⟨ar, cr, rfl, -, -⟩ := r2.shape
      obtain ⟨key, hkey⟩ : ∃ L, en.2.1 = L := ⟨_, rfl⟩
      obtain ⟨val, hval⟩ : ∃ L, en.2.2 = L := ⟨_, rfl⟩
      have HE := Lib.hid (And.intro hkey hval)
      rw [hkey] at d2 d5
      rw [hval] at d3 d6
      have hk0 : (0 : Int) ≤ (k : Int) := by omega
      have hk1 : (k : Int) < (es.length : Int) := by omega
      clear g1 g2 r1 r2 hen hkey hval
      go_wp2
      go_still_tail 8, (by kernel_rfl)
      go_wp2_with fail
      refine (show Calls Try.prog 65 #[.agg #[.slice aq en.1.length cq, .int .i64 key, .int .i64 val], .agg #[.slice ar en.1.length cr, .int .i64 key, .int .i64 val]] wo.drew (TruePost wo.drew) from (by have := eqEntry_c _ _ en wo.drew (R1.out.below (Below.refl _ _).drew) (R2.out.below (Below.refl _ _).drew); rw [HE.out.1, HE.out.2] at this; exact this)).mono ?_
      rintro e w3 ⟨rfl, hb3⟩
      have H3 := Lib.hid hb3
      go_wp2
      go_roundw
      case rel => exact ⟨k + 1, by omega, by go_num, HB.out.drew.trans (H3.out.mono (by simp; exact hsz))⟩
      case measure => simp [intOf]; omega
    · obtain rfl : k = es.length := by omega
      go_wp2
      go_ret
      exact ⟨rfl, HB.out⟩
set_option maxRecDepth 100000 in
set_option maxHeartbeats 1600000 in
theorem eqEntrySS_c {S S' : Nat → Prop} (va vb : Value) (F : Fd) (w : World) (ha : RdF S w va F) (hb : RdF S' w vb F) :
    Calls Try.prog 20 #[va, vb] w (TruePost w) := by
  obtain ⟨-, a1, c1, rfl, h1, m1, k1⟩ := ha
  obtain ⟨-, a2, c2, rfl, h2, m2, k2⟩ := hb
  have K1 := Lib.hid k1
  have K2 := Lib.hid k2
  unfold maxLen at m1 m2
  clear k1 k2
  go_enter Try.func20, Try.ntmps20
  go_wp2
  go_loopw [5] (fun i wr => ∃ k : Nat, k ≤ F.length ∧ i = .int .i64 k ∧ Hid (Below w.heap.size w wr)) (fun i _ => F.length - (intOf i).toNat)
  case atStart => exact ⟨0, Nat.zero_le _, rfl, Below.refl _ _⟩
  case round =>
    obtain ⟨k, hk, rfl, HB⟩ := hrel
    obtain ⟨wo, rfl⟩ : ∃ wo : World, wo = wr := ⟨_, rfl⟩
    have hsz := HB.out.size
    by_cases hlt : k < F.length
    · obtain ⟨b1, o1, rfl, g1⟩ := K1.out (by omega)
      obtain ⟨b2, o2, rfl, g2⟩ := K2.out (by omega)
      obtain ⟨rv1, ⟨-, d1⟩, r1⟩ := g1 k hlt
      obtain ⟨rv2, ⟨-, d4⟩, r2⟩ := g2 k hlt
      obtain ⟨R, hR⟩ : ∃ R, F.getD k [] = R := ⟨_, rfl⟩
      rw [hR] at r1 r2
      have d1 := cell_keep HB.out d1
      have d4 := cell_keep HB.out d4
      have R1 := Lib.hid (r1.below HB.out)
      have R2 := Lib.hid (r2.below HB.out)
      obtain ⟨-, aq, cq, rfl, -⟩ := r1
      obtain ⟨-, ar, cr, rfl, -⟩ := r2
      have hk0 : (0 : Int) ≤ (k : Int) := by omega
      have hk1 : (k : Int) < (F.length : Int) := by omega
      clear g1 g2 hR
      go_wp2
      go_still_tail 8, (by kernel_rfl)
      go_wp2_with fail
      refine (eqEntryS_c _ _ R _ (R1.out.below (Below.refl _ _).drew) (R2.out.below (Below.refl _ _).drew)).mono ?_
      rintro e w3 ⟨rfl, hb3⟩
      have H3 := Lib.hid hb3
      go_wp2
      go_roundw
      case rel => exact ⟨k + 1, by omega, by go_num, HB.out.drew.trans (H3.out.mono (by simp; exact hsz))⟩
      case measure => simp [intOf]; omega
    · obtain rfl : k = F.length := by omega
      go_wp2
      go_ret
      exact ⟨rfl, HB.out⟩
end Go.Proofs.Ythnepmhkeceadaa
