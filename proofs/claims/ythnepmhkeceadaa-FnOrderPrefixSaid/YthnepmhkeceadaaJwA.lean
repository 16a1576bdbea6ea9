/- Walks: an entry's clock, and whether it sees another one. -/
import Derived.Test.YthnepmhkeceadaaRd
import Derived.Test.YthnepmhkeceadaaFd
import Derived.Laws.StructEq
import Derived.Deep.RegionWith
import Derived.Deep.RegionHeld3
import Derived.Deep.DrawnRows
namespace Go.Proofs.Ythnepmhkeceadaa
open Go.RowKit
attribute [local go_sem ↓] Go.wp_at_zero Go.wp_at_succ
def ClkPost (F : Fd) (w i : Nat) (W : World) (e : Ending) (W' : World) : Prop :=
  ∃ v, e = .returned v ∧ RdS All 1 W' v (ent F w i).1.length (enc1 (ent F w i).1) ∧ Below W.heap.size W W'
theorem clock_c {S : Nat → Prop} (F : Fd) (fv : Value) (w i : Nat) (W : World) (h : RdF S W fv F) (hw : w < F.length) (hi : i < ln F w) :
    Calls Try.prog 38 #[fv, .agg #[.int .i64 w, .int .i64 i]] W (ClkPost F w i W) := by
  obtain ⟨b, off, cap, b2, off2, cap2, a3, cap3, rfl, h1, h2, c1, h3, h4, c2, -, -, hr⟩ := h.all.entry hw hi
  have HR := Lib.hid hr
  unfold maxLen at h2 h4
  have z1 : b < W.heap.size := World.block_lt_of_cell? W _ c1
  have z2 : b2 < W.heap.size := World.block_lt_of_cell? W _ c2
  clear h hr
  have hw' : (w : Int) < (F.length : Int) := by omega
  have hi' : (i : Int) < (ln F w : Int) := by omega
  go_enter Try.func38, Try.ntmps38
  go_wp2
  go_quiet (fail)
  go_wp2
  go_ret
  exact ⟨_, rfl, HR.out.move fun _ _ hc hs => ⟨trivial, cell_keep (by (repeat' (first | exact Below.refl _ _ | assumption | refine Below.drew ?_ | refine below_drewN ?_ _ | refine Below.alloc ?_ (by omega) _ | refine Below.alloc ?_ (by simp; omega) _ | refine Below.alloc ?_ (by simp) _ | refine Below.setCell ?_ (by omega) _ | refine Below.setCell ?_ (by simp; omega) _ | refine Below.setCell ?_ (by simp) _))) hc⟩, by (repeat' (first | exact Below.refl _ _ | assumption | refine Below.drew ?_ | refine below_drewN ?_ _ | refine Below.alloc ?_ (by omega) _ | refine Below.alloc ?_ (by simp; omega) _ | refine Below.alloc ?_ (by simp) _ | refine Below.setCell ?_ (by omega) _ | refine Below.setCell ?_ (by simp; omega) _ | refine Below.setCell ?_ (by simp) _))⟩
theorem clock_v (b off n cap b2 off2 m cap2 L cap3 : Nat) (a3 : Option Addr) (w i : Nat) (W : World) (hw : w < n) (_hn : n ≤ cap) (_hc : cap ≤ maxLen) (hi : i < m) (_hm : m ≤ cap2) (_hc2 : cap2 ≤ maxLen)
    (c1 : W.cell? ⟨b, off + w, none⟩ = some (.slice (some ⟨b2, off2, none⟩) m cap2)) (c2 : W.cell? ⟨b2, off2 + i * 3, none⟩ = some (.slice a3 L cap3)) :
    Calls Try.prog 38 #[.slice (some ⟨b, off, none⟩) n cap, .agg #[.int .i64 w, .int .i64 i]] W fun e W' => e = .returned (.slice a3 L cap3) ∧ Below W.heap.size W W' := by
  unfold maxLen at _hc _hc2
  have z1 : b < W.heap.size := World.block_lt_of_cell? W _ c1
  have z2 : b2 < W.heap.size := World.block_lt_of_cell? W _ c2
  have hw' : (w : Int) < (n : Int) := by omega
  have hi' : (i : Int) < (m : Int) := by omega
  go_enter Try.func38, Try.ntmps38
  go_wp2
  go_quiet (fail)
  go_wp2
  go_ret
  exact ⟨rfl, by (repeat' (first | exact Below.refl _ _ | assumption | refine Below.drew ?_ | refine below_drewN ?_ _ | refine Below.alloc ?_ (by omega) _ | refine Below.alloc ?_ (by simp; omega) _ | refine Below.alloc ?_ (by simp) _ | refine Below.setCell ?_ (by omega) _ | refine Below.setCell ?_ (by simp; omega) _ | refine Below.setCell ?_ (by simp) _))⟩
/-- (w, i) sees (v, k) -/
def seesB (F : Fd) (w i v k : Nat) : Bool := decide (¬ (w = v ∧ i = k) ∧ (k : Int) < ck F w i v)
def SeesPost (b : Bool) (W : World) (e : Ending) (W' : World) : Prop := e = .returned (.bool b) ∧ Below W.heap.size W W'
theorem sees_same (F : Fd) (fv : Value) (w i : Nat) (W : World) :
    Calls Try.prog 48 #[fv, .agg #[.int .i64 w, .int .i64 i], .agg #[.int .i64 w, .int .i64 i]] W (SeesPost (seesB F w i w i) W) := by
  have hb : seesB F w i w i = false := by unfold seesB; simp
  rw [hb]
  go_enter Try.func48, Try.ntmps48
  go_wp2
  go_quiet (fail)
  all_goals go_wp2
  all_goals go_ret
  all_goals exact ⟨rfl, by (repeat' (first | exact Below.refl _ _ | assumption | refine Below.drew ?_ | refine below_drewN ?_ _ | refine Below.alloc ?_ (by omega) _ | refine Below.alloc ?_ (by simp; omega) _ | refine Below.alloc ?_ (by simp) _ | refine Below.setCell ?_ (by omega) _ | refine Below.setCell ?_ (by simp; omega) _ | refine Below.setCell ?_ (by simp) _))⟩
set_option maxRecDepth 100000 in
set_option maxHeartbeats 1600000 in
theorem sees_other {S : Nat → Prop} (F : Fd) (fv : Value) (w i v k : Nat) (W : World) (h : RdF S W fv F) (hw : w < F.length) (hi : i < ln F w) (hv : v < (ent F w i).1.length) (hne : ¬ (w = v ∧ i = k)) :
    Calls Try.prog 48 #[fv, .agg #[.int .i64 w, .int .i64 i], .agg #[.int .i64 v, .int .i64 k]] W (SeesPost (seesB F w i v k) W) := by
  have hb : seesB F w i v k = decide ((k : Int) < ck F w i v) := by unfold seesB; simp [hne]
  rw [hb]
  obtain ⟨W2, hW2⟩ : ∃ W2, W2 = (W.alloc (.cells #[.int .i64 w, .int .i64 i] 37)).alloc (.cells #[.int .i64 v, .int .i64 k] 37) := ⟨_, rfl⟩
  have hB2 : Below W.heap.size W W2 := by rw [hW2]; (repeat' (first | exact Below.refl _ _ | assumption | refine Below.drew ?_ | refine below_drewN ?_ _ | refine Below.alloc ?_ (by omega) _ | refine Below.alloc ?_ (by simp; omega) _ | refine Below.alloc ?_ (by simp) _ | refine Below.setCell ?_ (by omega) _ | refine Below.setCell ?_ (by simp; omega) _ | refine Below.setCell ?_ (by simp) _))
  have HR := Lib.hid (h.below hB2)
  have H2 := Lib.hid hB2
  have hz := hB2.size
  have c0 : W2.cell? ⟨W.heap.size, 0, none⟩ = some (.int .i64 w) := by rw [hW2]; simp
  have c1 : W2.cell? ⟨W.heap.size, 1, none⟩ = some (.int .i64 i) := by rw [hW2]; simp
  have c2 : W2.cell? ⟨W.heap.size + 1, 0, none⟩ = some (.int .i64 v) := by rw [hW2]; simp
  have c3 : W2.cell? ⟨W.heap.size + 1, 1, none⟩ = some (.int .i64 k) := by rw [hW2]; simp
  clear h
  have hv' : (v : Int) < ((ent F w i).1.length : Int) := by omega
  obtain ⟨b, off, cap, b2, off2, cap2, a3, cap3, hfv, h1, h2, d1, h3, h4, d2, -, -, hr⟩ := HR.out.entry hw hi
  subst hfv
  obtain ⟨b3, o3, cap4, z3, ev, q1, q2, q3, HZ⟩ := hr.num hv
  simp only [Value.slice.injEq] at ev
  obtain ⟨rfl, -, rfl⟩ := ev
  have D := Lib.hid (And.intro d1 d2)
  have HM := Lib.hid (And.intro h1 (And.intro h2 (And.intro h3 h4)))
  unfold maxLen at q2
  clear hr d1 d2 h1 h2 h3 h4 HR
  by_cases hwv : w = v
  · subst hwv
    have hik : ((i : Int) == (k : Int)) = false := by rw [beq_eq_false_iff_ne]; omega
    clear hne
    go_enter Try.func48, Try.ntmps48
    go_wp2
    rw [← hW2]
    clear hW2
    go_region_held3 (fun w' => w'.cell? ⟨W.heap.size, 0, none⟩ = some (.int .i64 w) ∧ w'.cell? ⟨W.heap.size, 1, none⟩ = some (.int .i64 i) ∧ w'.cell? ⟨W.heap.size + 1, 0, none⟩ = some (.int .i64 w) ∧ w'.cell? ⟨W.heap.size + 1, 1, none⟩ = some (.int .i64 k) ∧ w'.cell? ⟨b3, o3 + w, none⟩ = some (.int .i64 z3)) (first | go_keep | (refine ⟨?_, ?_, ?_, ?_, ?_⟩ <;> (refine cell_keep hb3 ?_; simp [*]))) ((refine (clock_v b off F.length cap b2 off2 (ln F w) cap2 (ent F w i).1.length cap3 _ w i _ hw HM.out.1 HM.out.2.1 hi HM.out.2.2.1 HM.out.2.2.2 (cell_keep (Below.drew (Below.refl _ _)) D.out.1) (cell_keep (Below.drew (Below.refl _ _)) D.out.2)).mono ?_; rintro e W3 ⟨rfl, hb3⟩; have H3 := Lib.hid hb3))
    all_goals go_wp2
    all_goals go_ret
    all_goals exact ⟨ret_b (by rw [show ck F w i _ = z3 from HZ.out]), H2.out.drew.trans ((H3.out.mono (by simp; exact hz)))⟩
  · have hik : ((w : Int) == (v : Int)) = false := by rw [beq_eq_false_iff_ne]; omega
    clear hne
    go_enter Try.func48, Try.ntmps48
    go_wp2
    rw [← hW2]
    clear hW2
    go_region_held3 (fun w' => w'.cell? ⟨W.heap.size, 0, none⟩ = some (.int .i64 w) ∧ w'.cell? ⟨W.heap.size, 1, none⟩ = some (.int .i64 i) ∧ w'.cell? ⟨W.heap.size + 1, 0, none⟩ = some (.int .i64 v) ∧ w'.cell? ⟨W.heap.size + 1, 1, none⟩ = some (.int .i64 k) ∧ w'.cell? ⟨b3, o3 + v, none⟩ = some (.int .i64 z3)) (first | go_keep | (refine ⟨?_, ?_, ?_, ?_, ?_⟩ <;> (refine cell_keep hb3 ?_; simp [*]))) ((refine (clock_v b off F.length cap b2 off2 (ln F w) cap2 (ent F w i).1.length cap3 _ w i _ hw HM.out.1 HM.out.2.1 hi HM.out.2.2.1 HM.out.2.2.2 (cell_keep (Below.drew (Below.refl _ _)) D.out.1) (cell_keep (Below.drew (Below.refl _ _)) D.out.2)).mono ?_; rintro e W3 ⟨rfl, hb3⟩; have H3 := Lib.hid hb3))
    all_goals go_wp2
    all_goals go_ret
    all_goals exact ⟨ret_b (by rw [show ck F w i _ = z3 from HZ.out]), H2.out.drew.trans ((H3.out.mono (by simp; exact hz)))⟩
theorem sees_c {S : Nat → Prop} (F : Fd) (fv : Value) (w i v k : Nat) (W : World) (h : RdF S W fv F) (hw : w < F.length) (hi : i < ln F w) (hv : v < (ent F w i).1.length) :
    Calls Try.prog 48 #[fv, .agg #[.int .i64 w, .int .i64 i], .agg #[.int .i64 v, .int .i64 k]] W (SeesPost (seesB F w i v k) W) := by
  by_cases hne : w = v ∧ i = k
  · obtain ⟨rfl, rfl⟩ := hne
    exact sees_same F fv w i W
  · exact sees_other F fv w i v k W h hw hi hv hne
end Go.Proofs.Ythnepmhkeceadaa
