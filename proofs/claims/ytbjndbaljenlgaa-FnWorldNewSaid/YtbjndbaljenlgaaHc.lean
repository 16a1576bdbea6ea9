/- Contracts of a head's message and of HeadCheck, both sides: they answer hok. No condition. -/
import Derived.Test.YtbjndbaljenlgaaTs
namespace Go.Proofs.Ytbjndbaljenlgaa
open Go.RowKit
theorem message_c (len dig sign : Int) (w : World) (h1 : Dg len) (h2 : Dg dig) : Calls Try.prog 104 #[.agg #[.int .i64 len, .int .i64 dig, .int .i64 sign]] w (RetInt (pair len dig + 1) w) := by
  have hp := pair_in len dig
  have HP := Lib.hid (fun W => pair_c len dig W h1 h2)
  generalize pair len dig = p at *
  obtain ⟨p0, p1⟩ := hp
  clear h1 h2
  go_enter Try.func104, Try.ntmps104
  go_wp2_with fail
  refine (HP.out _).mono ?_
  rintro e w' ⟨rfl, rfl⟩
  go_wp2
  go_ret
  exact ⟨rfl, by (repeat' (first | exact Below.refl _ _ | assumption | refine Below.drew ?_ | refine below_drewN ?_ _ | refine Below.alloc ?_ (by omega) _ | refine Below.alloc ?_ (by simp; omega) _ | refine Below.alloc ?_ (by simp) _ | refine Below.setCell ?_ (by omega) _ | refine Below.setCell ?_ (by simp; omega) _ | refine Below.setCell ?_ (by simp) _))⟩
theorem l3Message_c (len dig : Int) (w : World) (h1 : Dg len) (h2 : Dg dig) : Calls Try.prog 111 #[.int .i64 len, .int .i64 dig] w (fun e w' => e = .returned (.int .i64 (pair len dig + 1)) ∧ w = w') := by
  have hp := pair_in len dig
  have HP := Lib.hid (fun W => l1Pair_c len dig W h1 h2)
  generalize pair len dig = p at *
  obtain ⟨p0, p1⟩ := hp
  clear h1 h2
  go_enter Try.func111, Try.ntmps111
  go_wp2_with fail
  refine (HP.out _).mono ?_
  rintro e w' ⟨rfl, rfl⟩
  go_wp2
  go_ret
  exact ⟨rfl, rfl⟩
theorem mul_bd {a b : Int} (h1 : 0 ≤ a) (h2 : a ≤ 996) (h3 : 0 ≤ b) (h4 : b ≤ 991) : 0 ≤ a * b ∧ a * b ≤ 996 * 991 :=
  ⟨Int.mul_nonneg h1 h3, Int.mul_le_mul h2 h4 h3 (by omega)⟩
theorem hok_no1 {a b c d : Int} (h : inB 1 996 a = false) : hok a b c d = false := hok_f fun hh => by have := inB_t hh.1.1 hh.1.2; rw [h] at this; cases this
theorem hok_no2 {a b c d : Int} (h : inB 0 16 b = false) : hok a b c d = false := hok_f fun hh => by have := inB_t hh.2.1 hh.2.2.1; rw [h] at this; cases this
theorem hok_no3 {a b c d : Int} (h : inB 0 990 c = false) : hok a b c d = false := hok_f fun hh => by have := inB_t hh.2.2.2.1.1 hh.2.2.2.1.2; rw [h] at this; cases this
theorem hok_no4 {a b c d : Int} (h : inB 1 996 d = false) : hok a b c d = false := hok_f fun hh => by have := inB_t hh.2.2.2.2.1.1 hh.2.2.2.2.1.2; rw [h] at this; cases this
theorem hok_eq {a b c d : Int} (h1 : inB 1 996 a = true) (h2 : inB 0 16 b = true) (h3 : inB 0 990 c = true) (h4 : inB 1 996 d = true) : hok a b c d = decide (d * 5 % 997 = a * (pair b c + 1) % 997) := by
  rw [inB_iff] at h1 h2 h3 h4
  by_cases h : d * 5 % 997 = a * (pair b c + 1) % 997
  · rw [hok_t ⟨h1, h2.1, h2.2, h3, h4, h⟩]; simp [h]
  · rw [hok_f (fun hh => h hh.2.2.2.2.2)]; simp [h]
theorem headCheck_c (pub len dig sign : Int) (w : World) : Calls Try.prog 60 #[.int .i64 pub, .agg #[.int .i64 len, .int .i64 dig, .int .i64 sign]] w (RetBool (hok pub len dig sign) w) := by
  obtain ⟨W0, hW0⟩ : ∃ W0, W0 = w.alloc (.cells #[.int .i64 len, .int .i64 dig, .int .i64 sign] 35) := ⟨_, rfl⟩
  have hB0 : Below w.heap.size w W0 := by rw [hW0]; (repeat' (first | exact Below.refl _ _ | assumption | refine Below.drew ?_ | refine below_drewN ?_ _ | refine Below.alloc ?_ (by omega) _ | refine Below.alloc ?_ (by simp; omega) _ | refine Below.alloc ?_ (by simp) _ | refine Below.setCell ?_ (by omega) _ | refine Below.setCell ?_ (by simp; omega) _ | refine Below.setCell ?_ (by simp) _))
  have c0 : W0.cell? ⟨w.heap.size, 0, none⟩ = some (.int .i64 len) := by rw [hW0]; simp
  have c1 : W0.cell? ⟨w.heap.size, 1, none⟩ = some (.int .i64 dig) := by rw [hW0]; simp
  have c2 : W0.cell? ⟨w.heap.size, 2, none⟩ = some (.int .i64 sign) := by rw [hW0]; simp
  have HB := Lib.hid hB0
  have z0 := fun (x : Sub W0) => x.cell c0
  have z1 := fun (x : Sub W0) => x.cell c1
  have z2 := fun (x : Sub W0) => x.cell c2
  have K1 := Lib.hid (fun W => isKey_c pub W)
  have K2 := Lib.hid (fun W => within_c len 0 16 W)
  have K3 := Lib.hid (fun W => isDigest_c dig W)
  have K4 := Lib.hid (fun W => isKey_c sign W)
  clear hB0
  cases h1 : inB 1 996 pub
  · rw [hok_no1 h1]
    rw [h1] at K1
    clear h1
    go_enter Try.func60, Try.ntmps60
    go_wp2
    rw [← hW0]
    clear hW0
    refine wp_region_sub (by kernel_rfl) (by kernel_rfl) ?_
    repeat (go_big_quiet_step (with_reducible (first | exact Calls.sub_same (v := .bool false) (fun W _ => K1.out W))))
    refine wpQuiet_nil ?_
    rintro _ ⟨xs, rfl⟩
    have HX := Lib.hid (HB.out.trans (xs.b.mono HB.out.size))
    go_wp2
    go_ret
    exact ⟨rfl, HX.out⟩
  · rw [h1] at K1
    cases h2 : inB 0 16 len
    · rw [hok_no2 h2]
      rw [h2] at K2
      clear h1 h2
      go_enter Try.func60, Try.ntmps60
      go_wp2
      rw [← hW0]
      clear hW0
      refine wp_region_sub (by kernel_rfl) (by kernel_rfl) ?_
      repeat (go_big_quiet_step (with_reducible (first | exact Calls.sub_same (v := .bool true) (fun W _ => K1.out W) | exact Calls.sub_same (v := .bool false) (fun W _ => K2.out W))))
      refine wpQuiet_nil ?_
      rintro _ ⟨xs, rfl⟩
      have HX := Lib.hid (HB.out.trans (xs.b.mono HB.out.size))
      go_wp2
      go_ret
      exact ⟨rfl, HX.out⟩
    · rw [h2] at K2
      cases h3 : inB 0 990 dig
      · rw [hok_no3 h3]
        rw [h3] at K3
        clear h1 h2 h3
        go_enter Try.func60, Try.ntmps60
        go_wp2
        rw [← hW0]
        clear hW0
        refine wp_region_sub (by kernel_rfl) (by kernel_rfl) ?_
        repeat (go_big_quiet_step (with_reducible (first | exact Calls.sub_same (v := .bool true) (fun W _ => K1.out W) | exact Calls.sub_same (v := .bool true) (fun W _ => K2.out W) | exact Calls.sub_same (v := .bool false) (fun W _ => K3.out W))))
        refine wpQuiet_nil ?_
        rintro _ ⟨xs, rfl⟩
        have HX := Lib.hid (HB.out.trans (xs.b.mono HB.out.size))
        go_wp2
        go_ret
        exact ⟨rfl, HX.out⟩
      · rw [h3] at K3
        cases h4 : inB 1 996 sign
        · rw [hok_no4 h4]
          rw [h4] at K4
          clear h1 h2 h3 h4
          go_enter Try.func60, Try.ntmps60
          go_wp2
          rw [← hW0]
          clear hW0
          refine wp_region_sub (by kernel_rfl) (by kernel_rfl) ?_
          repeat (go_big_quiet_step (with_reducible (first | exact Calls.sub_same (v := .bool true) (fun W _ => K1.out W) | exact Calls.sub_same (v := .bool true) (fun W _ => K2.out W) | exact Calls.sub_same (v := .bool true) (fun W _ => K3.out W) | exact Calls.sub_same (v := .bool false) (fun W _ => K4.out W))))
          refine wpQuiet_nil ?_
          rintro _ ⟨xs, rfl⟩
          have HX := Lib.hid (HB.out.trans (xs.b.mono HB.out.size))
          go_wp2
          go_ret
          exact ⟨rfl, HX.out⟩
        · rw [h4] at K4
          have i1 := inB_iff.1 h1
          have i2 := inB_iff.1 h2
          have i3 := inB_iff.1 h3
          have i4 := inB_iff.1 h4
          have hd : Dg len := ⟨i2.1, by omega⟩
          have HE := Lib.hid (hok_eq h1 h2 h3 h4)
          have M := Lib.hid (fun W => message_c len dig sign W hd i3)
          have hp := pair_in len dig
          generalize pair len dig = p at *
          obtain ⟨mg, hmg⟩ : ∃ mg, p + 1 = mg := ⟨_, rfl⟩
          rw [hmg] at M HE
          obtain ⟨p0, p1⟩ := hp
          have hm0 : 0 ≤ mg := by omega
          have hm1 : mg ≤ 991 := by omega
          have hmb := mul_bd (by omega : 0 ≤ pub) i1.2 hm0 hm1
          have e1 : IntKind.i64.wrap (pub * mg) = pub * mg := IntWalk.i64_in _ (by omega)
          have e2 : IntKind.i64.wrap (sign * 5) = sign * 5 := IntWalk.i64_in _ (by omega)
          have e3 : (pub * mg).tmod 997 = pub * mg % 997 := Int.tmod_eq_emod_of_nonneg hmb.1
          have e4 : (sign * 5).tmod 997 = sign * 5 % 997 := Int.tmod_eq_emod_of_nonneg (by omega)
          have M2 := Lib.hid (fun W => (show Calls _ _ _ _ (fun e w' => e = .returned (.int .i64 mg) ∧ Below W.heap.size W w') from M.out W))
          clear h1 h2 h3 h4 hd hmg p0 p1 hmb hm0 hm1 i1 i2 i3 i4
          clear M
          have M := M2
          clear M2
          go_enter Try.func60, Try.ntmps60
          go_wp2
          rw [← hW0]
          clear hW0
          refine wp_region_sub (by kernel_rfl) (by kernel_rfl) ?_
          repeat (go_big_quiet_step (with_reducible (first | exact Calls.sub_same (v := .bool true) (fun W _ => K1.out W) | exact Calls.sub_same (v := .bool true) (fun W _ => K2.out W) | exact Calls.sub_same (v := .bool true) (fun W _ => K3.out W) | exact Calls.sub_same (v := .bool true) (fun W _ => K4.out W) | exact Calls.sub (v := .int .i64 mg) (fun W hb => M.out W))))
          refine wpQuiet_nil ?_
          rintro _ ⟨xs, rfl⟩
          have HX := Lib.hid (HB.out.trans (xs.b.mono HB.out.size))
          go_wp2
          go_ret
          exact ⟨ret_bb (by rw [HE.out]; rfl), HX.out⟩
theorem specHead_c (pub len dig sign : Int) (w : World) : Calls Try.prog 73 #[.int .i64 pub, .agg #[.int .i64 len, .int .i64 dig, .int .i64 sign]] w (RetBool (hok pub len dig sign) w) := by
  obtain ⟨W0, hW0⟩ : ∃ W0, W0 = w.alloc (.cells #[.int .i64 len, .int .i64 dig, .int .i64 sign] 35) := ⟨_, rfl⟩
  have hB0 : Below w.heap.size w W0 := by rw [hW0]; (repeat' (first | exact Below.refl _ _ | assumption | refine Below.drew ?_ | refine below_drewN ?_ _ | refine Below.alloc ?_ (by omega) _ | refine Below.alloc ?_ (by simp; omega) _ | refine Below.alloc ?_ (by simp) _ | refine Below.setCell ?_ (by omega) _ | refine Below.setCell ?_ (by simp; omega) _ | refine Below.setCell ?_ (by simp) _))
  have c0 : W0.cell? ⟨w.heap.size, 0, none⟩ = some (.int .i64 len) := by rw [hW0]; simp
  have c1 : W0.cell? ⟨w.heap.size, 1, none⟩ = some (.int .i64 dig) := by rw [hW0]; simp
  have c2 : W0.cell? ⟨w.heap.size, 2, none⟩ = some (.int .i64 sign) := by rw [hW0]; simp
  have HB := Lib.hid hB0
  have z0 := fun (x : Sub W0) => x.cell c0
  have z1 := fun (x : Sub W0) => x.cell c1
  have z2 := fun (x : Sub W0) => x.cell c2
  have K1 := Lib.hid (fun W => l3Key_c pub W)
  have K2 := Lib.hid (fun W => l6In_c len 0 16 W)
  have K3 := Lib.hid (fun W => l1Digest_c dig W)
  have K4 := Lib.hid (fun W => l3Key_c sign W)
  clear hB0
  cases h1 : inB 1 996 pub
  · rw [hok_no1 h1]
    rw [h1] at K1
    clear h1
    go_enter Try.func73, Try.ntmps73
    go_wp2
    rw [← hW0]
    clear hW0
    refine wp_region_sub (by kernel_rfl) (by kernel_rfl) ?_
    repeat (go_big_quiet_step (with_reducible (first | exact Calls.sub_same (v := .bool false) (fun W _ => K1.out W))))
    refine wpQuiet_nil ?_
    rintro _ ⟨xs, rfl⟩
    have HX := Lib.hid (HB.out.trans (xs.b.mono HB.out.size))
    go_wp2
    go_ret
    exact ⟨rfl, HX.out⟩
  · rw [h1] at K1
    cases h2 : inB 0 16 len
    · rw [hok_no2 h2]
      rw [h2] at K2
      clear h1 h2
      go_enter Try.func73, Try.ntmps73
      go_wp2
      rw [← hW0]
      clear hW0
      refine wp_region_sub (by kernel_rfl) (by kernel_rfl) ?_
      repeat (go_big_quiet_step (with_reducible (first | exact Calls.sub_same (v := .bool true) (fun W _ => K1.out W) | exact Calls.sub_same (v := .bool false) (fun W _ => K2.out W))))
      refine wpQuiet_nil ?_
      rintro _ ⟨xs, rfl⟩
      have HX := Lib.hid (HB.out.trans (xs.b.mono HB.out.size))
      go_wp2
      go_ret
      exact ⟨rfl, HX.out⟩
    · rw [h2] at K2
      cases h3 : inB 0 990 dig
      · rw [hok_no3 h3]
        rw [h3] at K3
        clear h1 h2 h3
        go_enter Try.func73, Try.ntmps73
        go_wp2
        rw [← hW0]
        clear hW0
        refine wp_region_sub (by kernel_rfl) (by kernel_rfl) ?_
        repeat (go_big_quiet_step (with_reducible (first | exact Calls.sub_same (v := .bool true) (fun W _ => K1.out W) | exact Calls.sub_same (v := .bool true) (fun W _ => K2.out W) | exact Calls.sub_same (v := .bool false) (fun W _ => K3.out W))))
        refine wpQuiet_nil ?_
        rintro _ ⟨xs, rfl⟩
        have HX := Lib.hid (HB.out.trans (xs.b.mono HB.out.size))
        go_wp2
        go_ret
        exact ⟨rfl, HX.out⟩
      · rw [h3] at K3
        cases h4 : inB 1 996 sign
        · rw [hok_no4 h4]
          rw [h4] at K4
          clear h1 h2 h3 h4
          go_enter Try.func73, Try.ntmps73
          go_wp2
          rw [← hW0]
          clear hW0
          refine wp_region_sub (by kernel_rfl) (by kernel_rfl) ?_
          repeat (go_big_quiet_step (with_reducible (first | exact Calls.sub_same (v := .bool true) (fun W _ => K1.out W) | exact Calls.sub_same (v := .bool true) (fun W _ => K2.out W) | exact Calls.sub_same (v := .bool true) (fun W _ => K3.out W) | exact Calls.sub_same (v := .bool false) (fun W _ => K4.out W))))
          refine wpQuiet_nil ?_
          rintro _ ⟨xs, rfl⟩
          have HX := Lib.hid (HB.out.trans (xs.b.mono HB.out.size))
          go_wp2
          go_ret
          exact ⟨rfl, HX.out⟩
        · rw [h4] at K4
          have i1 := inB_iff.1 h1
          have i2 := inB_iff.1 h2
          have i3 := inB_iff.1 h3
          have i4 := inB_iff.1 h4
          have hd : Dg len := ⟨i2.1, by omega⟩
          have HE := Lib.hid (hok_eq h1 h2 h3 h4)
          have M := Lib.hid (fun W => l3Message_c len dig W hd i3)
          have hp := pair_in len dig
          generalize pair len dig = p at *
          obtain ⟨mg, hmg⟩ : ∃ mg, p + 1 = mg := ⟨_, rfl⟩
          rw [hmg] at M HE
          obtain ⟨p0, p1⟩ := hp
          have hm0 : 0 ≤ mg := by omega
          have hm1 : mg ≤ 991 := by omega
          have hmb := mul_bd (by omega : 0 ≤ pub) i1.2 hm0 hm1
          have e1 : IntKind.i64.wrap (pub * mg) = pub * mg := IntWalk.i64_in _ (by omega)
          have e2 : IntKind.i64.wrap (sign * 5) = sign * 5 := IntWalk.i64_in _ (by omega)
          have e3 : (pub * mg).tmod 997 = pub * mg % 997 := Int.tmod_eq_emod_of_nonneg hmb.1
          have e4 : (sign * 5).tmod 997 = sign * 5 % 997 := Int.tmod_eq_emod_of_nonneg (by omega)
          clear h1 h2 h3 h4 hd hmg p0 p1 hmb hm0 hm1 i1 i2 i3 i4
          go_enter Try.func73, Try.ntmps73
          go_wp2
          rw [← hW0]
          clear hW0
          refine wp_region_sub (by kernel_rfl) (by kernel_rfl) ?_
          repeat (go_big_quiet_step (with_reducible (first | exact Calls.sub_same (v := .bool true) (fun W _ => K1.out W) | exact Calls.sub_same (v := .bool true) (fun W _ => K2.out W) | exact Calls.sub_same (v := .bool true) (fun W _ => K3.out W) | exact Calls.sub_same (v := .bool true) (fun W _ => K4.out W) | exact Calls.sub_same (v := .int .i64 mg) (fun W _ => M.out W))))
          refine wpQuiet_nil ?_
          rintro _ ⟨xs, rfl⟩
          have HX := Lib.hid (HB.out.trans (xs.b.mono HB.out.size))
          go_wp2
          go_ret
          exact ⟨ret_bb (by rw [HE.out]; rfl), HX.out⟩
end Go.Proofs.Ytbjndbaljenlgaa
