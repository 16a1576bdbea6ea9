/- Walks: ViewAt of the reference. -/
import Derived.Test.YtedcolbbbohbaaaJwZ
import Derived.Test.YtedcolbbbohbaaaJwV
namespace Go.Proofs.Ytedcolbbbohbaaa
open Go.RowKit
def VaOk (F : Fd) (n : Int) : Prop := JV F ∧ 0 ≤ n ∧ n ≤ (tot F : Int)
open Classical in
noncomputable def vaB (F : Fd) (n : Int) : Bool := decide (VaOk F n)
open Classical in
noncomputable def vaL (F : Fd) (n : Int) : List P2 := if VaOk F n then vw F n.toNat else []
theorem vaB_t {F : Fd} {n : Int} (h : VaOk F n) : vaB F n = true := by unfold vaB; simp [h]
theorem vaB_f {F : Fd} {n : Int} (h : ¬ VaOk F n) : vaB F n = false := by unfold vaB; simp [h]
theorem vaL_t {F : Fd} {n : Int} (h : VaOk F n) : vaL F n = vw F n.toNat := by unfold vaL; rw [if_pos h]
theorem vaL_f {F : Fd} {n : Int} (h : ¬ VaOk F n) : vaL F n = [] := by unfold vaL; rw [if_neg h]
def VaPost (F : Fd) (n : Int) (W : World) (e : Ending) (W' : World) : Prop :=
  ∃ v, e = .returned (.tuple #[v, .bool (vaB F n)]) ∧ W'.ownsRow W.heap.size 43 2 v (vaL F n).length (enc2 (vaL F n)) ∧ Below W.heap.size W W'
theorem ret_vb' {v : Value} {a b : Bool} (h : a = b) : Ending.returned (.tuple #[v, .bool a]) = .returned (.tuple #[v, .bool b]) := by rw [h]
theorem vw_len10 (F : Fd) (n : Nat) : (vw F n).length ≤ 10 := vwL_len _ _
theorem vw_nxt {F : Fd} (h : JV F) {k : Nat} (hk : k < tot F) {x y : Nat} (hx : wk F k = x ∧ ix F k = y) {c : List Int} {key val : Int} (he : (c, key, val) = ent F x y) : set32 (key, val) false (vw F k) = vw F (k + 1) := by
  have := vw_step h hk
  rw [show pst F k (wk F k) = y from hx.2, hx.1, ← he] at this
  exact this
set_option maxRecDepth 100000 in
set_option maxHeartbeats 3200000 in
theorem specViewAt_c {S : Nat → Prop} (F : Fd) (fv : Value) (n : Int) (W : World) (h : RdF S W fv F) :
    Calls Try.prog 27 #[fv, .int .i64 n] W (VaPost F n W) := by
  obtain ⟨a0, m0, c0, rfl, hm0, q1, q2⟩ : ∃ a m cap, fv = .slice a m cap ∧ m = F.length ∧ m ≤ cap ∧ cap ≤ maxLen := by
    obtain ⟨a, cap, rfl, h1, h2⟩ := h.shape; exact ⟨a, _, cap, rfl, rfl, h1, h2⟩
  unfold maxLen at q2
  have HM0 := Lib.hid hm0
  obtain ⟨w1, hw1⟩ : ∃ w1, w1 = W.alloc (.cells #[] 43) := ⟨_, rfl⟩
  have hb1 : Below W.heap.size W w1 := by rw [hw1]; (repeat' (first | exact Below.refl _ _ | assumption | refine Below.drew ?_ | refine below_drewN ?_ _ | refine Below.alloc ?_ (by omega) _ | refine Below.alloc ?_ (by simp; omega) _ | refine Below.alloc ?_ (by simp) _ | refine Below.setCell ?_ (by omega) _ | refine Below.setCell ?_ (by simp; omega) _ | refine Below.setCell ?_ (by simp) _))
  have hown1 : w1.ownsRow W.heap.size 43 2 (.slice (some ⟨W.heap.size, 0, none⟩) 0 0) 0 [] := by rw [hw1]; exact own_empty W W.heap.size 43 2 (Nat.le_refl _)
  have H1 := Lib.hid (h.below hb1)
  have HB1 := Lib.hid hb1
  have HO1 := Lib.hid hown1
  have HW1 := Lib.hid hw1
  clear h hm0 hb1 hown1 hw1
  go_enter Try.func27, Try.ntmps27
  go_wp2_with fail
  rw [← HW1.out]
  refine (specJoinOrder_o F _ w1 H1.out).mono ?_
  rintro e w2 ⟨ao, ON, Oc, rfl, Ob, O1, O2, hO, hb2⟩
  have H2 := Lib.hid (H1.out.below hb2)
  have HO2 := Lib.hid (own_below HO1.out hb2)
  have HB2 := Lib.hid (HB1.out.trans (hb2.mono HB1.out.size))
  have HR2 := Lib.hid hO
  unfold maxLen at O2
  clear hO hb2
  go_wp2_with fail
  refine (specJoinValid_c F _ _ H2.out).mono ?_
  rintro e w3 ⟨rfl, hb3⟩
  have H3 := Lib.hid (H2.out.below hb3)
  have HO3 := Lib.hid (own_below HO2.out hb3)
  have HB3 := Lib.hid (HB2.out.trans (hb3.mono HB2.out.size))
  have HR3 := Lib.hid (HR2.out.below hb3)
  clear hb3
  by_cases hj : JV F
  · rw [jvB_t hj]
    have HJ := Lib.hid hj
    have HN := Lib.hid (HR3.out.tot hj)
    clear hj
    by_cases hn : 0 ≤ n ∧ n ≤ (ON : Int)
    · obtain ⟨k1, k2⟩ := hn
      obtain ⟨m, rfl⟩ := Int.eq_ofNat_of_zero_le k1
      have hmO : m ≤ ON := by omega
      have OK := Lib.hid (show VaOk F m from ⟨HJ.out, k1, by have := HN.out; omega⟩)
      have hm3 : m0 = 3 := HM0.out.trans HJ.out.1
      subst hm3
      go_wp2_with fail
      refine (l6In_t m 0 ON _ k1 k2).mono ?_
      rintro e _ ⟨rfl, rfl⟩
      clear k1 k2
      have HS0 : Hid (w3.ownsRow W.heap.size 43 2 (.slice (some ⟨W.heap.size, 0, none⟩) 0 0) (vw F 0).length (enc2 (vw F 0))) := by
        have e : vw F 0 = [] := List.eq_nil_of_length_eq_zero (Nat.le_zero.1 (vw_len F 0))
        rw [e]; exact HO3.out
      go_wp2
      go_loopw [6, 8] (fun o i' wr => ∃ k : Nat, k ≤ m ∧ i' = .int .i64 k ∧ Hid (wr.ownsRow W.heap.size 43 2 o (vw F k).length (enc2 (vw F k))) ∧ Hid (Below w3.heap.size w3 wr)) (fun _ i' _ => m - (intOf i').toNat)
      case atStart => exact ⟨0, Nat.zero_le _, rfl, HS0, Below.refl _ _⟩
      case round =>
        clear HS0
        obtain ⟨k, hk, rfl, HO, HBr⟩ := hrel
        have HBW := Lib.hid (HB3.out.trans (HBr.out.mono HB3.out.size))
        by_cases hlt : k < m
        · have hlt' : (k : Int) < (m : Int) := by omega
          have hkO : (k : Int) < (ON : Int) := by omega
          obtain ⟨g, o, x, y, rfl, d1, d2, HX, x3, yL⟩ := (HR3.out.below HBr.out).at HJ.out (k := k) (by omega)
          obtain ⟨b5, o5, c5, a6, c6, ev, -, -, q5, q6, q7, qr⟩ := (H3.out.below HBr.out).feed (j := x) (by rw [HJ.out.1]; exact x3)
          rw [HJ.out.1] at ev
          simp only [Value.slice.injEq] at ev
          obtain ⟨rfl, -, rfl⟩ := ev
          unfold maxLen at q7
          have hx3' : (x : Int) < 3 := by omega
          have hyL' : (y : Int) < (ln F x : Int) := by omega
          obtain ⟨b8, o8, e, aB, cB, rfl, he, f2, f3, f4, hrr⟩ := qr.entry yL
          obtain ⟨c, key, val⟩ := e
          simp only [] at f2 f3 f4 hrr
          have HV := Lib.hid (vw_nxt HJ.out (by have := HN.out; omega) HX.out (show (c, key, val) = ent F x y from he))
          obtain ⟨cl, hcl⟩ : ∃ cl, c.length = cl := ⟨_, rfl⟩
          rw [hcl] at f2
          obtain ⟨L, hL⟩ : ∃ L, ln F x = L := ⟨_, rfl⟩
          rw [hL] at q5 q6 hyL'
          clear hrr he qr hcl hL
          have z1 := World.block_lt_of_cell? wr _ d1
          have z2 := World.block_lt_of_cell? wr _ q5
          have z3 := World.block_lt_of_cell? wr _ f2
          go_wp2
          go_region
          have hb7 : Below wr.heap.size wr (wr.alloc (.cells #[.slice aB cl cB, .int .i64 key, .int .i64 val] 46)).drew := by (repeat' (first | exact Below.refl _ _ | assumption | refine Below.drew ?_ | refine below_drewN ?_ _ | refine Below.alloc ?_ (by omega) _ | refine Below.alloc ?_ (by simp; omega) _ | refine Below.alloc ?_ (by simp) _ | refine Below.setCell ?_ (by omega) _ | refine Below.setCell ?_ (by simp; omega) _ | refine Below.setCell ?_ (by simp) _))
          have HO7 := Lib.hid (own_below HO.out hb7)
          have HB7 := Lib.hid (HBr.out.trans (hb7.mono HBr.out.size))
          have hl10 := vw_len10 F k
          clear hb7 d1 d2 q5 f2 f3 f4
          go_wp2_with fail
          refine (l32Set_c _ (vw F k) key val _ (Rd.of_own HO7.out) (by omega)).mono ?_
          rintro e w8 ⟨v8, rfl, hown8, hb8⟩
          rw [HV.out] at hown8
          have HB8 := Lib.hid (HB7.out.trans (hb8.mono HB7.out.size))
          have HO8 := Lib.hid (own_base hown8 (Nat.le_trans (HB3.out.size) HB7.out.size))
          clear hown8 hb8
          go_wp2
          go_roundw
          case rel => exact ⟨k + 1, by omega, by go_num, HO8, HB8⟩
          case measure => simp [intOf]; omega
        · obtain rfl : k = m := by omega
          have HE := Lib.hid (vaL_t OK.out)
          go_wp2
          go_ret2
          exact ⟨_, ret_vb' (vaB_t OK.out).symm, by rw [HE.out, Int.toNat_natCast]; exact HO.out, HBW.out⟩
    · have hn' : n < 0 ∨ (ON : Int) < n := by omega
      have NO := Lib.hid (show ¬ VaOk F n from fun hh => by have := HN.out; have h1 := hh.2.1; have h2 := hh.2.2; omega)
      clear hn
      go_wp2_with fail
      refine (l6In_f n 0 ON _ hn').mono ?_
      rintro e _ ⟨rfl, rfl⟩
      clear hn'
      go_wp2
      go_ret2
      exact ⟨_, ret_vb' (vaB_f NO.out).symm, by rw [vaL_f NO.out]; exact HO3.out, HB3.out⟩
  · rw [jvB_f hj]
    have NO := Lib.hid (show ¬ VaOk F n from fun hh => hj hh.1)
    clear hj
    go_wp2
    go_ret2
    exact ⟨_, ret_vb' (vaB_f NO.out).symm, by rw [vaL_f NO.out]; exact HO3.out, HB3.out⟩
end Go.Proofs.Ytedcolbbbohbaaa
