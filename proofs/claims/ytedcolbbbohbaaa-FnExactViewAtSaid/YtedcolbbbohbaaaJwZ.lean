/- Walks: storing a pair in a view; ViewAt of the reference; the draw of entries and a number. -/
import Derived.Test.YtedcolbbbohbaaaJwX
import Derived.Test.YtedcolbbbohbaaaLoP
import Derived.StillTailTactics
namespace Go.Proofs.Ytedcolbbbohbaaa
open Go.RowKit
theorem info_pairV : (Try.prog.info? 43).map (fun i => (i.zero, i.size, i.bytes)) = some (some zero2, 2, 16) := by kernel_rfl
theorem set32_drop (p : P2) (put : Bool) (ps : List P2) (k : Nat) (x y : Int) (hk : k < ps.length) (h : ps.getD k (0, 0) = (x, y)) :
    set32 p put (ps.drop k) = (if put = false ∧ p.1 ≤ x then [p] else []) ++ ((if x = p.1 then [] else [(x, y)]) ++ set32 p (put || decide (p.1 ≤ x)) (ps.drop (k + 1))) := by
  rw [List.drop_eq_getElem_cons hk]
  have e : ps[k] = (x, y) := by rw [← h, List.getD_eq_getElem?_getD, List.getElem?_eq_getElem hk]; rfl
  rw [e]
  rfl
set_option maxRecDepth 100000 in
set_option maxHeartbeats 3200000 in
theorem l32Set_c (v : Value) (ps : List P2) (p1 p2 : Int) (w : World) (h : Rd 2 w v ps.length (enc2 ps)) (hl : ps.length ≤ 30) :
    Calls Try.prog 56 #[v, .agg #[.int .i64 p1, .int .i64 p2]] w (RetOwn 43 2 (set32 (p1, p2) false ps).length (enc2 (set32 (p1, p2) false ps)) w) := by
  obtain ⟨w1, hw1⟩ : ∃ w1, w1 = w.alloc (.cells #[.int .i64 p1, .int .i64 p2] 43) := ⟨_, rfl⟩
  have hb1 : Below w.heap.size w w1 := by rw [hw1]; (repeat' (first | exact Below.refl _ _ | assumption | refine Below.drew ?_ | refine below_drewN ?_ _ | refine Below.alloc ?_ (by omega) _ | refine Below.alloc ?_ (by simp; omega) _ | refine Below.alloc ?_ (by simp) _ | refine Below.setCell ?_ (by omega) _ | refine Below.setCell ?_ (by simp; omega) _ | refine Below.setCell ?_ (by simp) _))
  have P1 : w1.cell? ⟨w.heap.size, 0, none⟩ = some (.int .i64 p1) := by rw [hw1]; simp
  have P2' : w1.cell? ⟨w.heap.size, 1, none⟩ = some (.int .i64 p2) := by rw [hw1]; simp
  have hz1 : w1.heap.size = w.heap.size + 1 := by rw [hw1]; simp
  have PP := Lib.hid (And.intro P1 P2')
  have HR := Lib.hid (h.below hb1)
  have HB1 := Lib.hid hb1
  have HW1 := Lib.hid hw1
  have HZ1 := Lib.hid hz1
  obtain ⟨R, hR⟩ : ∃ R, set32 (p1, p2) false ps = R := ⟨_, rfl⟩
  rw [hR]
  obtain ⟨-, a1, c1, rfl, h1, m1, -⟩ := h
  unfold maxLen at m1
  have hown0 := own_empty w1 w1.heap.size 43 2 (Nat.le_refl _)
  have HB0 : Hid (Below w1.heap.size w1 (w1.alloc (.cells #[] 43))) := (Below.refl _ _).alloc (Nat.le_refl _) _
  have HS0 : Hid (R = [] ++ set32 (p1, p2) false (ps.drop 0)) := by show _ = _; rw [← hR]; rfl
  clear hw1 P1 P2' hR hb1 hz1
  go_enter Try.func56, Try.ntmps56
  go_wp2
  rw [HZ1.out.symm, ← HW1.out]
  go_loopw [5, 6, 7] (fun o b' i' wr => ∃ (k : Nat) (b : Bool) (acc : List P2), k ≤ ps.length ∧ acc.length ≤ 2 * k ∧ i' = .int .i64 k ∧ b' = .bool b ∧ wr.ownsRow w1.heap.size 43 2 o acc.length (enc2 acc) ∧ Hid (Below w1.heap.size w1 wr) ∧ Hid (R = acc ++ set32 (p1, p2) b (ps.drop k))) (fun _ _ i' _ => ps.length - (intOf i').toNat)
  case atStart => exact ⟨0, false, [], Nat.zero_le _, Nat.le_refl _, rfl, rfl, hown0, HB0, HS0⟩
  case round =>
    clear hown0 HB0 HS0
    obtain ⟨k, b, acc, hk, hal, rfl, rfl, hown, HBr, HS⟩ := hrel
    have x0 := cell_keep HBr.out PP.out.1
    have x1 := cell_keep HBr.out PP.out.2
    by_cases hlt : k < ps.length
    · obtain ⟨-, a1', c1', e, -, -, k1⟩ := HR.out
      simp only [Value.slice.injEq, true_and] at e
      obtain ⟨rfl, rfl⟩ := e
      obtain ⟨b1, o1, rfl, g1⟩ := k1 (by omega)
      have z1 : b1 < w1.heap.size := by
        have := g1 (k * 2) _ (enc2_at ps k (0, 0) hlt).1
        exact World.block_lt_of_cell? w1 _ this
      have z0 : w.heap.size < w1.heap.size := by have := HZ1.out; omega
      obtain ⟨x, y, e1, u1, u2⟩ := at2 HBr.out g1 k hlt
      have HD := Lib.hid (set32_drop (p1, p2) b ps k x y hlt e1)
      have hlt' : (k : Int) < (ps.length : Int) := by omega
      obtain ⟨ao, co, rfl⟩ := own_slice hown
      clear e1 g1 k1
      cases b with
      | true =>
        go_wp2
        go_quiet (fail)
        obtain ⟨wx, hwwx⟩ : ∃ wx, wx = World.drewN wr nq := ⟨_, rfl⟩
        have hbwx : Below (World.heap wr).size wr wx := by rw [hwwx]; (repeat' (first | exact Below.refl _ _ | assumption | refine Below.drew ?_ | refine below_drewN ?_ _ | refine Below.alloc ?_ (by omega) _ | refine Below.alloc ?_ (by simp; omega) _ | refine Below.alloc ?_ (by simp) _ | refine Below.setCell ?_ (by omega) _ | refine Below.setCell ?_ (by simp; omega) _ | refine Below.setCell ?_ (by simp) _))
        rw [← hwwx]
        clear hwwx
        have hownwx := own_below hown hbwx
        have HBwx := Lib.hid (HBr.out.trans (hbwx.mono HBr.out.size))
        have x0 := cell_keep hbwx x0
        have x1 := cell_keep hbwx x1
        have u1 := cell_keep hbwx u1
        have u2 := cell_keep hbwx u2
        clear hbwx hown
        by_cases hx : x = p1
        · have hxe : (x != p1) = false := by rw [bne_eq_false_iff_eq]; exact hx
          go_wp2
          go_quiet (fail)
          obtain ⟨wy, hwwy⟩ : ∃ wy, wy = World.drewN wx nq := ⟨_, rfl⟩
          have hbwy : Below (World.heap wx).size wx wy := by rw [hwwy]; (repeat' (first | exact Below.refl _ _ | assumption | refine Below.drew ?_ | refine below_drewN ?_ _ | refine Below.alloc ?_ (by omega) _ | refine Below.alloc ?_ (by simp; omega) _ | refine Below.alloc ?_ (by simp) _ | refine Below.setCell ?_ (by omega) _ | refine Below.setCell ?_ (by simp; omega) _ | refine Below.setCell ?_ (by simp) _))
          rw [← hwwy]
          clear hwwy
          have hownwy := own_below hownwx hbwy
          have HBwy := Lib.hid (HBwx.out.trans (hbwy.mono HBwx.out.size))
          have x0 := cell_keep hbwy x0
          have x1 := cell_keep hbwy x1
          have u1 := cell_keep hbwy u1
          have u2 := cell_keep hbwy u2
          clear hbwy hownwx
          have HS' : Hid (R = acc ++ set32 (p1, p2) true (ps.drop (k + 1))) := by show _ = _; rw [HS.out, HD.out]; simp [hx]
          go_wp2
          go_roundw
          case rel => first | exact ⟨k + 1, true, acc, by omega, by omega, by go_num, rfl, hownwy, HBwy, HS'⟩ | ((repeat apply Exists.intro); exact ⟨⟨k + 1, true, acc, by omega, by omega, by go_num, rfl, hownwy, HBwy, HS'⟩, rfl⟩)
          case measure => simp [intOf]; omega
        · have hxe : (x != p1) = true := by rw [bne_iff_ne]; exact hx
          go_wp2
          go_quiet (fail)
          obtain ⟨wy, hwwy⟩ : ∃ wy, wy = World.drewN wx nq := ⟨_, rfl⟩
          have hbwy : Below (World.heap wx).size wx wy := by rw [hwwy]; (repeat' (first | exact Below.refl _ _ | assumption | refine Below.drew ?_ | refine below_drewN ?_ _ | refine Below.alloc ?_ (by omega) _ | refine Below.alloc ?_ (by simp; omega) _ | refine Below.alloc ?_ (by simp) _ | refine Below.setCell ?_ (by omega) _ | refine Below.setCell ?_ (by simp; omega) _ | refine Below.setCell ?_ (by simp) _))
          rw [← hwwy]
          clear hwwy
          have hownwy := own_below hownwx hbwy
          have HBwy := Lib.hid (HBwx.out.trans (hbwy.mono HBwx.out.size))
          have x0 := cell_keep hbwy x0
          have x1 := cell_keep hbwy x1
          have u1 := cell_keep hbwy u1
          have u2 := cell_keep hbwy u2
          clear hbwy hownwx
          have hszwy := HBwy.out.size
          go_wp2_with (at_builtin; refine wpList_app2 _ rfl _ _ 38 rfl w1.heap.size 43 Try.underlying38 info_pairV _ acc rfl hownwy x y _ _ rfl (by omega) hszwy ?_)
          intro vwz wz qz hqz hlqz hownwz hgwz
          obtain ⟨aawz, ccwz, rfl⟩ := own_slice hownwz
          have HBwz := Lib.hid (HBwy.out.grown hgwz hszwy (fun b hb => (hownwy.lt b hb).1))
          have hnewz : ∀ c, c < w1.heap.size → some c ≠ _ := fun c hc e => by have := (hownwy.lt c e.symm).1; omega
          have x0 := grown_cell hgwz x0 (hnewz _ z0)
          have x1 := grown_cell hgwz x1 (hnewz _ z0)
          have u1 := grown_cell hgwz u1 (hnewz _ z1)
          have u2 := grown_cell hgwz u2 (hnewz _ z1)
          clear hgwz hownwy hnewz
          have HS' : Hid (R = qz ++ set32 (p1, p2) true (ps.drop (k + 1))) := by show _ = _; rw [HS.out, HD.out, hqz.out]; simp [hx]
          have hlz : qz.length ≤ 2 * (k + 1) := by omega
          go_wp2
          go_roundw
          case rel => first | exact ⟨k + 1, true, qz, by omega, hlz, by go_num, rfl, hownwz, HBwz, HS'⟩ | ((repeat apply Exists.intro); exact ⟨⟨k + 1, true, qz, by omega, hlz, by go_num, rfl, hownwz, HBwz, HS'⟩, rfl⟩)
          case measure => simp [intOf]; omega
      | false =>
        by_cases hpx : p1 ≤ x
        · have hpd : decide (p1 ≤ x) = true := by simp; exact hpx
          go_wp2
          go_quiet (fail)
          obtain ⟨wx, hwwx⟩ : ∃ wx, wx = World.drewN wr nq := ⟨_, rfl⟩
          have hbwx : Below (World.heap wr).size wr wx := by rw [hwwx]; (repeat' (first | exact Below.refl _ _ | assumption | refine Below.drew ?_ | refine below_drewN ?_ _ | refine Below.alloc ?_ (by omega) _ | refine Below.alloc ?_ (by simp; omega) _ | refine Below.alloc ?_ (by simp) _ | refine Below.setCell ?_ (by omega) _ | refine Below.setCell ?_ (by simp; omega) _ | refine Below.setCell ?_ (by simp) _))
          rw [← hwwx]
          clear hwwx
          have hownwx := own_below hown hbwx
          have HBwx := Lib.hid (HBr.out.trans (hbwx.mono HBr.out.size))
          have x0 := cell_keep hbwx x0
          have x1 := cell_keep hbwx x1
          have u1 := cell_keep hbwx u1
          have u2 := cell_keep hbwx u2
          clear hbwx hown
          have hszwx := HBwx.out.size
          go_wp2_with (at_builtin; refine wpList_app2 _ rfl _ _ 38 rfl w1.heap.size 43 Try.underlying38 info_pairV _ acc rfl hownwx p1 p2 _ _ rfl (by omega) hszwx ?_)
          intro vwv wv qv hqv hlqv hownwv hgwv
          obtain ⟨aawv, ccwv, rfl⟩ := own_slice hownwv
          have HBwv := Lib.hid (HBwx.out.grown hgwv hszwx (fun b hb => (hownwx.lt b hb).1))
          have hnewv : ∀ c, c < w1.heap.size → some c ≠ _ := fun c hc e => by have := (hownwx.lt c e.symm).1; omega
          have x0 := grown_cell hgwv x0 (hnewv _ z0)
          have x1 := grown_cell hgwv x1 (hnewv _ z0)
          have u1 := grown_cell hgwv u1 (hnewv _ z1)
          have u2 := grown_cell hgwv u2 (hnewv _ z1)
          clear hgwv hownwx hnewv
          by_cases hx : x = p1
          · have hxe : (x != p1) = false := by rw [bne_eq_false_iff_eq]; exact hx
            go_wp2
            go_quiet (fail)
            obtain ⟨wy, hwwy⟩ : ∃ wy, wy = World.drewN wv nq := ⟨_, rfl⟩
            have hbwy : Below (World.heap wv).size wv wy := by rw [hwwy]; (repeat' (first | exact Below.refl _ _ | assumption | refine Below.drew ?_ | refine below_drewN ?_ _ | refine Below.alloc ?_ (by omega) _ | refine Below.alloc ?_ (by simp; omega) _ | refine Below.alloc ?_ (by simp) _ | refine Below.setCell ?_ (by omega) _ | refine Below.setCell ?_ (by simp; omega) _ | refine Below.setCell ?_ (by simp) _))
            rw [← hwwy]
            clear hwwy
            have hownwy := own_below hownwv hbwy
            have HBwy := Lib.hid (HBwv.out.trans (hbwy.mono HBwv.out.size))
            have x0 := cell_keep hbwy x0
            have x1 := cell_keep hbwy x1
            have u1 := cell_keep hbwy u1
            have u2 := cell_keep hbwy u2
            clear hbwy hownwv
            have HS' : Hid (R = qv ++ set32 (p1, p2) true (ps.drop (k + 1))) := by show _ = _; rw [HS.out, HD.out]; simp [hpx, hqv.out, hx]
            go_wp2
            go_roundw
            case rel => first | exact ⟨k + 1, true, qv, by omega, by omega, by go_num, rfl, hownwy, HBwy, HS'⟩ | ((repeat apply Exists.intro); exact ⟨⟨k + 1, true, qv, by omega, by omega, by go_num, rfl, hownwy, HBwy, HS'⟩, rfl⟩)
            case measure => simp [intOf]; omega
          · have hxe : (x != p1) = true := by rw [bne_iff_ne]; exact hx
            go_wp2
            go_quiet (fail)
            obtain ⟨wy, hwwy⟩ : ∃ wy, wy = World.drewN wv nq := ⟨_, rfl⟩
            have hbwy : Below (World.heap wv).size wv wy := by rw [hwwy]; (repeat' (first | exact Below.refl _ _ | assumption | refine Below.drew ?_ | refine below_drewN ?_ _ | refine Below.alloc ?_ (by omega) _ | refine Below.alloc ?_ (by simp; omega) _ | refine Below.alloc ?_ (by simp) _ | refine Below.setCell ?_ (by omega) _ | refine Below.setCell ?_ (by simp; omega) _ | refine Below.setCell ?_ (by simp) _))
            rw [← hwwy]
            clear hwwy
            have hownwy := own_below hownwv hbwy
            have HBwy := Lib.hid (HBwv.out.trans (hbwy.mono HBwv.out.size))
            have x0 := cell_keep hbwy x0
            have x1 := cell_keep hbwy x1
            have u1 := cell_keep hbwy u1
            have u2 := cell_keep hbwy u2
            clear hbwy hownwv
            have hszwy := HBwy.out.size
            go_wp2_with (at_builtin; refine wpList_app2 _ rfl _ _ 38 rfl w1.heap.size 43 Try.underlying38 info_pairV _ qv rfl hownwy x y _ _ rfl (by omega) hszwy ?_)
            intro vwz wz qz hqz hlqz hownwz hgwz
            obtain ⟨aawz, ccwz, rfl⟩ := own_slice hownwz
            have HBwz := Lib.hid (HBwy.out.grown hgwz hszwy (fun b hb => (hownwy.lt b hb).1))
            have hnewz : ∀ c, c < w1.heap.size → some c ≠ _ := fun c hc e => by have := (hownwy.lt c e.symm).1; omega
            have x0 := grown_cell hgwz x0 (hnewz _ z0)
            have x1 := grown_cell hgwz x1 (hnewz _ z0)
            have u1 := grown_cell hgwz u1 (hnewz _ z1)
            have u2 := grown_cell hgwz u2 (hnewz _ z1)
            clear hgwz hownwy hnewz
            have HS' : Hid (R = qz ++ set32 (p1, p2) true (ps.drop (k + 1))) := by show _ = _; rw [HS.out, HD.out, hqz.out]; simp [hpx, hqv.out, hx]
            have hlz : qz.length ≤ 2 * (k + 1) := by omega
            go_wp2
            go_roundw
            case rel => first | exact ⟨k + 1, true, qz, by omega, hlz, by go_num, rfl, hownwz, HBwz, HS'⟩ | ((repeat apply Exists.intro); exact ⟨⟨k + 1, true, qz, by omega, hlz, by go_num, rfl, hownwz, HBwz, HS'⟩, rfl⟩)
            case measure => simp [intOf]; omega
        · have hpd : decide (p1 ≤ x) = false := by simp; omega
          have hx0 : x ≠ p1 := by omega
          go_wp2
          go_quiet (fail)
          obtain ⟨wx, hwwx⟩ : ∃ wx, wx = World.drewN wr nq := ⟨_, rfl⟩
          have hbwx : Below (World.heap wr).size wr wx := by rw [hwwx]; (repeat' (first | exact Below.refl _ _ | assumption | refine Below.drew ?_ | refine below_drewN ?_ _ | refine Below.alloc ?_ (by omega) _ | refine Below.alloc ?_ (by simp; omega) _ | refine Below.alloc ?_ (by simp) _ | refine Below.setCell ?_ (by omega) _ | refine Below.setCell ?_ (by simp; omega) _ | refine Below.setCell ?_ (by simp) _))
          rw [← hwwx]
          clear hwwx
          have hownwx := own_below hown hbwx
          have HBwx := Lib.hid (HBr.out.trans (hbwx.mono HBr.out.size))
          have x0 := cell_keep hbwx x0
          have x1 := cell_keep hbwx x1
          have u1 := cell_keep hbwx u1
          have u2 := cell_keep hbwx u2
          clear hbwx hown
          have hx := hx0
          have hxe : (x != p1) = true := by rw [bne_iff_ne]; exact hx
          go_wp2
          go_quiet (fail)
          obtain ⟨wy, hwwy⟩ : ∃ wy, wy = World.drewN wx nq := ⟨_, rfl⟩
          have hbwy : Below (World.heap wx).size wx wy := by rw [hwwy]; (repeat' (first | exact Below.refl _ _ | assumption | refine Below.drew ?_ | refine below_drewN ?_ _ | refine Below.alloc ?_ (by omega) _ | refine Below.alloc ?_ (by simp; omega) _ | refine Below.alloc ?_ (by simp) _ | refine Below.setCell ?_ (by omega) _ | refine Below.setCell ?_ (by simp; omega) _ | refine Below.setCell ?_ (by simp) _))
          rw [← hwwy]
          clear hwwy
          have hownwy := own_below hownwx hbwy
          have HBwy := Lib.hid (HBwx.out.trans (hbwy.mono HBwx.out.size))
          have x0 := cell_keep hbwy x0
          have x1 := cell_keep hbwy x1
          have u1 := cell_keep hbwy u1
          have u2 := cell_keep hbwy u2
          clear hbwy hownwx
          have hszwy := HBwy.out.size
          go_wp2_with (at_builtin; refine wpList_app2 _ rfl _ _ 38 rfl w1.heap.size 43 Try.underlying38 info_pairV _ acc rfl hownwy x y _ _ rfl (by omega) hszwy ?_)
          intro vwz wz qz hqz hlqz hownwz hgwz
          obtain ⟨aawz, ccwz, rfl⟩ := own_slice hownwz
          have HBwz := Lib.hid (HBwy.out.grown hgwz hszwy (fun b hb => (hownwy.lt b hb).1))
          have hnewz : ∀ c, c < w1.heap.size → some c ≠ _ := fun c hc e => by have := (hownwy.lt c e.symm).1; omega
          have x0 := grown_cell hgwz x0 (hnewz _ z0)
          have x1 := grown_cell hgwz x1 (hnewz _ z0)
          have u1 := grown_cell hgwz u1 (hnewz _ z1)
          have u2 := grown_cell hgwz u2 (hnewz _ z1)
          clear hgwz hownwy hnewz
          have HS' : Hid (R = qz ++ set32 (p1, p2) false (ps.drop (k + 1))) := by show _ = _; have hpn : ¬ (p1 ≤ x) := (by omega); rw [HS.out, HD.out, hqz.out]; simp [hpn, hx]
          have hlz : qz.length ≤ 2 * (k + 1) := by omega
          go_wp2
          go_roundw
          case rel => first | exact ⟨k + 1, false, qz, by omega, hlz, by go_num, rfl, hownwz, HBwz, HS'⟩ | ((repeat apply Exists.intro); exact ⟨⟨k + 1, false, qz, by omega, hlz, by go_num, rfl, hownwz, HBwz, HS'⟩, rfl⟩)
          case measure => simp [intOf]; omega
    · obtain rfl : k = ps.length := by omega
      have HE : Hid (R = acc ++ if b = true then [] else [(p1, p2)]) := by
        have := HS.out
        rw [List.drop_length] at this
        show _ = _
        rw [this]; rfl
      cases b with
      | true =>
        have HE' : Hid (R = acc) := by show R = acc; have := HE.out; rw [this]; simp
        go_wp2
        go_ret
        exact ⟨_, rfl, by rw [HE'.out]; exact own_base hown HB1.out.size, HB1.out.trans (HBr.out.mono HB1.out.size)⟩
      | false =>
        have hsz := HBr.out.size
        go_wp2_with (at_builtin; refine wpList_app2 _ rfl _ _ 38 rfl w1.heap.size 43 Try.underlying38 info_pairV _ acc rfl hown p1 p2 _ _ rfl (by omega) hsz ?_)
        intro v' w6 qs hqs hql hown6 hg6
        have HE' : Hid (R = qs) := by have := HE.out; show _ = _; rw [this, hqs.out]; rfl
        have HB6 := Lib.hid (HBr.out.grown hg6 hsz (fun b hb => (hown.lt b hb).1))
        clear hg6 hown
        go_wp2
        go_ret
        exact ⟨_, rfl, by rw [HE'.out]; exact own_base hown6 HB1.out.size, HB1.out.trans (HB6.out.mono HB1.out.size)⟩
end Go.Proofs.Ytedcolbbbohbaaa
