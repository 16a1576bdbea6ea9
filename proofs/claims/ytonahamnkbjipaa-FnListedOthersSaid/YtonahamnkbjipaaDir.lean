/- Contracts: DirectoryValid of the program and of the reference decide the same; no condition. -/
import Derived.Test.YtonahamnkbjipaaRd
namespace Go.Proofs.Ytonahamnkbjipaa
open Go.RowKit
theorem within_qt (n lo hi : Int) (w : World) (k : Nat) (h1 : lo ≤ n) (h2 : n ≤ hi) : Calls Try.prog 24 #[.int .i64 n, .int .i64 lo, .int .i64 hi] (w.drewN k) fun e w'' => e = .returned (.bool true) ∧ ∃ m, w'' = w.drewN m :=
  Calls.quiet_of_same ((within_t n lo hi _ h1 h2).mono fun _ _ ⟨a, b⟩ => ⟨a, b.symm⟩)
theorem within_qf (n lo hi : Int) (w : World) (k : Nat) (h : n < lo ∨ hi < n) : Calls Try.prog 24 #[.int .i64 n, .int .i64 lo, .int .i64 hi] (w.drewN k) fun e w'' => e = .returned (.bool false) ∧ ∃ m, w'' = w.drewN m :=
  Calls.quiet_of_same ((within_f n lo hi _ h).mono fun _ _ ⟨a, b⟩ => ⟨a, b.symm⟩)
theorem l6In_qt (n lo hi : Int) (w : World) (k : Nat) (h1 : lo ≤ n) (h2 : n ≤ hi) : Calls Try.prog 30 #[.int .i64 n, .int .i64 lo, .int .i64 hi] (w.drewN k) fun e w'' => e = .returned (.bool true) ∧ ∃ m, w'' = w.drewN m :=
  Calls.quiet_of_same ((l6In_t n lo hi _ h1 h2).mono fun _ _ ⟨a, b⟩ => ⟨a, b.symm⟩)
theorem l6In_qf (n lo hi : Int) (w : World) (k : Nat) (h : n < lo ∨ hi < n) : Calls Try.prog 30 #[.int .i64 n, .int .i64 lo, .int .i64 hi] (w.drewN k) fun e w'' => e = .returned (.bool false) ∧ ∃ m, w'' = w.drewN m :=
  Calls.quiet_of_same ((l6In_f n lo hi _ h).mono fun _ _ ⟨a, b⟩ => ⟨a, b.symm⟩)
def dvAt (ps : List P2) (k : Nat) : Prop :=
  0 ≤ (ps.getD k (0, 0)).1 ∧ (ps.getD k (0, 0)).1 ≤ 99 ∧ 0 ≤ (ps.getD k (0, 0)).2 ∧ (ps.getD k (0, 0)).2 ≤ 999 ∧ (0 < k → (ps.getD (k - 1) (0, 0)).1 < (ps.getD k (0, 0)).1)
instance (ps : List P2) (k : Nat) : Decidable (dvAt ps k) := inferInstanceAs (Decidable (_ ∧ _))
def DV (ps : List P2) : Prop := ps.length ≤ 8 ∧ ∀ k, k < ps.length → dvAt ps k
instance (ps : List P2) : Decidable (DV ps) := inferInstanceAs (Decidable (_ ∧ ∀ k, k < ps.length → dvAt ps k))
def dvB (ps : List P2) : Bool := decide (DV ps)
theorem dvB_true {ps : List P2} (h : DV ps) : dvB ps = true := by simp [dvB, h]
theorem dvB_false {ps : List P2} (h : ¬ DV ps) : dvB ps = false := by simp [dvB, h]
def DvPost (ps : List P2) (w : World) (e : Ending) (w' : World) : Prop := e = .returned (.bool (dvB ps)) ∧ Below w.heap.size w w'
theorem ret_bool {a b : Bool} (h : a = b) : Ending.returned (.bool a) = .returned (.bool b) := by rw [h]
set_option maxHeartbeats 1600000 in
theorem dirValid_c (v : Value) (ps : List P2) (w : World) (h : Rd 2 w v ps.length (enc2 ps)) :
    Calls Try.prog 18 #[v] w (DvPost ps w) := by
  obtain ⟨-, a1, c1, rfl, h1, m1, k1⟩ := h
  unfold maxLen at m1
  by_cases h8 : ps.length ≤ 8
  · go_enter Try.func18, Try.ntmps18
    go_wp2
    go_loopw [10] (fun i wr => ∃ k : Nat, k ≤ ps.length ∧ i = .int .i64 k ∧ Below w.heap.size w wr ∧ Hid (∀ j, j < k → dvAt ps j)) (fun i _ => ps.length - (intOf i).toNat)
    case atStart => exact ⟨0, Nat.zero_le _, rfl, Below.refl _ _, fun j hj => by omega⟩
    case round =>
      obtain ⟨k, hk, rfl, hb, HA⟩ := hrel
      have hsz := hb.size
      by_cases hlt : k < ps.length
      · obtain ⟨b1, o1, rfl, g1⟩ := k1 (by omega)
        obtain ⟨x, y, e1, u1, u2⟩ := at2 hb g1 k hlt
        have hbw : b1 < wr.heap.size := World.block_lt_of_cell? wr _ u1
        have c3 : 0 < k → ∃ z z', ps.getD (k - 1) (0, 0) = (z, z') ∧ wr.cell? ⟨b1, o1 + (k - 1) * 2, none⟩ = some (.int .i64 z) := fun h0 => by
          obtain ⟨z, z', e2, u3, -⟩ := at2 hb g1 (k - 1) (by omega)
          exact ⟨z, z', e2, u3⟩
        have HE := Lib.hid e1
        clear e1 k1 g1
        have hno : ¬ dvAt ps k → dvB ps = false := fun h => dvB_false (fun hd => h (hd.2 k hlt))
        have HNo := Lib.hid hno
        clear hno
        by_cases hx : 0 ≤ x ∧ x ≤ 99
        · obtain ⟨hx1, hx2⟩ := hx
          by_cases hy : 0 ≤ y ∧ y ≤ 999
          · obtain ⟨hy1, hy2⟩ := hy
            by_cases hk0 : 0 < k
            · obtain ⟨z, z', e2, c3⟩ := c3 hk0
              have hgd : decide ((0 : Int) < (k : Int)) = true := by simpa using hk0
              have HZ := Lib.hid e2
              clear e2
              by_cases hge : z < x
              · have hge' : decide (x ≤ z) = false := by simpa using hge
                have hd : dvAt ps k := by unfold dvAt; rw [HE.out, HZ.out]; exact ⟨hx1, hx2, hy1, hy2, fun _ => hge⟩
                have HD := Lib.hid hd
                clear hd
                go_wp2
                go_quiet ((go_at_call 24; first | (with_reducible exact within_qt x 0 99 _ _ hx1 hx2) | (with_reducible exact within_qt y 0 999 _ _ hy1 hy2)))
                go_wp2
                go_roundw
                case rel =>
                  refine ⟨k + 1, by omega, by go_num, below_drewN (hb.alloc hsz _) _, fun j hj => ?_⟩
                  by_cases e : j = k
                  · subst e; exact HD.out
                  · exact HA.out j (by omega)
                case measure => simp [intOf]; omega
              · have hge' : decide (x ≤ z) = true := by simpa using hge
                have hd : dvB ps = false := HNo.out (by unfold dvAt; rw [HE.out, HZ.out]; exact fun h => hge (h.2.2.2.2 hk0))
                have HD := Lib.hid hd
                clear hd
                go_wp2
                go_quiet ((go_at_call 24; first | (with_reducible exact within_qt x 0 99 _ _ hx1 hx2) | (with_reducible exact within_qt y 0 999 _ _ hy1 hy2)))
                go_wp2
                go_ret
                exact ⟨ret_bool HD.out.symm, below_drewN (hb.alloc hsz _) _⟩
            · have hgd : decide ((0 : Int) < (k : Int)) = false := by simpa using hk0
              have hd : dvAt ps k := by unfold dvAt; rw [HE.out]; exact ⟨hx1, hx2, hy1, hy2, fun h => absurd h hk0⟩
              have HD := Lib.hid hd
              clear hd c3
              go_wp2
              go_quiet ((go_at_call 24; first | (with_reducible exact within_qt x 0 99 _ _ hx1 hx2) | (with_reducible exact within_qt y 0 999 _ _ hy1 hy2)))
              go_wp2
              go_roundw
              case rel =>
                refine ⟨k + 1, by omega, by go_num, below_drewN (hb.alloc hsz _) _, fun j hj => ?_⟩
                by_cases e : j = k
                · subst e; exact HD.out
                · exact HA.out j (by omega)
              case measure => simp [intOf]; omega
          · have hd : dvB ps = false := HNo.out (by unfold dvAt; rw [HE.out]; exact fun h => hy ⟨h.2.2.1, h.2.2.2.1⟩)
            have HD := Lib.hid hd
            have hy' : y < 0 ∨ 999 < y := by omega
            clear hd c3 hy
            go_wp2
            go_quiet ((go_at_call 24; first | (with_reducible exact within_qt x 0 99 _ _ hx1 hx2) | (with_reducible exact within_qf y 0 999 _ _ hy')))
            go_wp2
            go_ret
            exact ⟨ret_bool HD.out.symm, below_drewN (hb.alloc hsz _) _⟩
        · have hd : dvB ps = false := HNo.out (by unfold dvAt; rw [HE.out]; exact fun h => hx ⟨h.1, h.2.1⟩)
          have HD := Lib.hid hd
          have hx' : x < 0 ∨ 99 < x := by omega
          clear hd c3 hx
          go_wp2
          go_quiet ((go_at_call 24; (with_reducible exact within_qf x 0 99 _ _ hx')))
          go_wp2
          go_ret
          exact ⟨ret_bool HD.out.symm, below_drewN (hb.alloc hsz _) _⟩
      · obtain rfl : k = ps.length := by omega
        have HD := Lib.hid (dvB_true ⟨h8, HA.out⟩)
        clear k1
        go_wp2
        go_ret
        exact ⟨ret_bool HD.out.symm, hb⟩
  · have HD := Lib.hid (dvB_false (ps := ps) (fun h => h8 h.1))
    clear k1
    go_enter Try.func18, Try.ntmps18
    go_wp2
    go_ret
    exact ⟨ret_bool HD.out.symm, Below.refl _ _⟩
set_option maxHeartbeats 1600000 in
theorem specDirValid_c (v : Value) (ps : List P2) (w : World) (h : Rd 2 w v ps.length (enc2 ps)) :
    Calls Try.prog 20 #[v] w (DvPost ps w) := by
  obtain ⟨-, a1, c1, rfl, h1, m1, k1⟩ := h
  unfold maxLen at m1
  · go_enter Try.func20, Try.ntmps20
    go_wp2
    go_loopw [3] (fun i wr => ∃ k : Nat, k ≤ ps.length ∧ i = .int .i64 k ∧ Below w.heap.size w wr ∧ Hid (∀ j, j < k → dvAt ps j)) (fun i _ => ps.length - (intOf i).toNat)
    case atStart => exact ⟨0, Nat.zero_le _, rfl, Below.refl _ _, fun j hj => by omega⟩
    case round =>
      obtain ⟨k, hk, rfl, hb, HA⟩ := hrel
      have hsz := hb.size
      by_cases hlt : k < ps.length
      · obtain ⟨b1, o1, rfl, g1⟩ := k1 (by omega)
        obtain ⟨x, y, e1, u1, u2⟩ := at2 hb g1 k hlt
        have hbw : b1 < wr.heap.size := World.block_lt_of_cell? wr _ u1
        have c3 : 0 < k → ∃ z z', ps.getD (k - 1) (0, 0) = (z, z') ∧ wr.cell? ⟨b1, o1 + (k - 1) * 2, none⟩ = some (.int .i64 z) := fun h0 => by
          obtain ⟨z, z', e2, u3, -⟩ := at2 hb g1 (k - 1) (by omega)
          exact ⟨z, z', e2, u3⟩
        have HE := Lib.hid e1
        clear e1 k1 g1
        have hno : ¬ dvAt ps k → dvB ps = false := fun h => dvB_false (fun hd => h (hd.2 k hlt))
        have HNo := Lib.hid hno
        clear hno
        by_cases hx : 0 ≤ x ∧ x ≤ 99
        · obtain ⟨hx1, hx2⟩ := hx
          by_cases hy : 0 ≤ y ∧ y ≤ 999
          · obtain ⟨hy1, hy2⟩ := hy
            by_cases hk0 : 0 < k
            · obtain ⟨z, z', e2, c3⟩ := c3 hk0
              have hgd : decide ((0 : Int) < (k : Int)) = true := by simpa using hk0
              have HZ := Lib.hid e2
              clear e2
              by_cases hge : z < x
              · have hge' : decide (x ≤ z) = false := by simpa using hge
                have hd : dvAt ps k := by unfold dvAt; rw [HE.out, HZ.out]; exact ⟨hx1, hx2, hy1, hy2, fun _ => hge⟩
                have HD := Lib.hid hd
                clear hd
                go_wp2
                go_quiet ((go_at_call 30; first | (with_reducible exact l6In_qt x 0 99 _ _ hx1 hx2) | (with_reducible exact l6In_qt y 0 999 _ _ hy1 hy2)))
                go_wp2
                go_roundw
                case rel =>
                  refine ⟨k + 1, by omega, by go_num, below_drewN hb _, fun j hj => ?_⟩
                  by_cases e : j = k
                  · subst e; exact HD.out
                  · exact HA.out j (by omega)
                case measure => simp [intOf]; omega
              · have hge' : decide (x ≤ z) = true := by simpa using hge
                have hd : dvB ps = false := HNo.out (by unfold dvAt; rw [HE.out, HZ.out]; exact fun h => hge (h.2.2.2.2 hk0))
                have HD := Lib.hid hd
                clear hd
                go_wp2
                go_quiet ((go_at_call 30; first | (with_reducible exact l6In_qt x 0 99 _ _ hx1 hx2) | (with_reducible exact l6In_qt y 0 999 _ _ hy1 hy2)))
                go_wp2
                go_ret
                exact ⟨ret_bool HD.out.symm, below_drewN hb _⟩
            · have hgd : decide ((0 : Int) < (k : Int)) = false := by simpa using hk0
              have hd : dvAt ps k := by unfold dvAt; rw [HE.out]; exact ⟨hx1, hx2, hy1, hy2, fun h => absurd h hk0⟩
              have HD := Lib.hid hd
              clear hd c3
              go_wp2
              go_quiet ((go_at_call 30; first | (with_reducible exact l6In_qt x 0 99 _ _ hx1 hx2) | (with_reducible exact l6In_qt y 0 999 _ _ hy1 hy2)))
              go_wp2
              go_roundw
              case rel =>
                refine ⟨k + 1, by omega, by go_num, below_drewN hb _, fun j hj => ?_⟩
                by_cases e : j = k
                · subst e; exact HD.out
                · exact HA.out j (by omega)
              case measure => simp [intOf]; omega
          · have hd : dvB ps = false := HNo.out (by unfold dvAt; rw [HE.out]; exact fun h => hy ⟨h.2.2.1, h.2.2.2.1⟩)
            have HD := Lib.hid hd
            have hy' : y < 0 ∨ 999 < y := by omega
            clear hd c3 hy
            go_wp2
            go_quiet ((go_at_call 30; first | (with_reducible exact l6In_qt x 0 99 _ _ hx1 hx2) | (with_reducible exact l6In_qf y 0 999 _ _ hy')))
            go_wp2
            go_ret
            exact ⟨ret_bool HD.out.symm, below_drewN hb _⟩
        · have hd : dvB ps = false := HNo.out (by unfold dvAt; rw [HE.out]; exact fun h => hx ⟨h.1, h.2.1⟩)
          have HD := Lib.hid hd
          have hx' : x < 0 ∨ 99 < x := by omega
          clear hd c3 hx
          go_wp2
          go_quiet ((go_at_call 30; (with_reducible exact l6In_qf x 0 99 _ _ hx')))
          go_wp2
          go_ret
          exact ⟨ret_bool HD.out.symm, below_drewN hb _⟩
      · obtain rfl : k = ps.length := by omega
        clear k1
        by_cases h8 : ps.length ≤ 8
        · have HD := Lib.hid (dvB_true ⟨h8, HA.out⟩)
          go_wp2
          go_ret
          exact ⟨ret_bool (by rw [HD.out]; simp; omega), hb⟩
        · have HD := Lib.hid (dvB_false (ps := ps) (fun h => h8 h.1))
          go_wp2
          go_ret
          exact ⟨ret_bool (by rw [HD.out]; simp; omega), hb⟩
end Go.Proofs.Ytonahamnkbjipaa
