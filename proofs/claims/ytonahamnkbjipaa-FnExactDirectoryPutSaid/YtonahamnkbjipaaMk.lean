/- Contracts: sizes, copies, marks and held marks of slices. -/
import Derived.Test.YtonahamnkbjipaaProg
import Derived.Test.YtonahamnkbjipaaBase
import Derived.Deep.QuietTactic
import Derived.BigQuiet
import Derived.StillTailTactics
import Derived.Outline
import Derived.Laws.StructEq
namespace Go.Proofs.Ytonahamnkbjipaa
open Go.RowKit
theorem szListedS_c (v : Value) (n : Nat) (flat : List Value) (w : World) (h : Rd 2 w v n flat) :
    Calls Try.prog 13 #[v, .int .i64 1048576] w fun e w' => e = .returned (.int .i64 (if n ≤ 1048576 then 1048576 - n else -1)) ∧ w = w' := by
  obtain ⟨-, a1, c1, rfl, h1, m1, k1⟩ := h
  unfold maxLen at m1
  clear k1
  by_cases hn : n ≤ 1048576
  · go_enter Try.func13, Try.ntmps13
    go_wp2
    go_ret
    exact ⟨by simp, rfl⟩
  · go_enter Try.func13, Try.ntmps13
    go_wp2
    go_ret
    exact ⟨by simp, rfl⟩
theorem toListed_c (x y : Int) (w : World) : Calls Try.prog 32 #[.agg #[.int .i64 x, .int .i64 y]] w fun e w' => e = .returned (.agg #[.int .i64 x, .int .i64 y]) ∧ Below w.heap.size w w' := by
  go_enter Try.func32, Try.ntmps32
  go_wp2
  exact bodyPost_ret (v := .agg #[.int .i64 x, .int .i64 y]) (by simp [results, Try.results32, go_sem]) rfl ⟨rfl, by (repeat' (first | exact Below.refl _ _ | assumption | refine Below.drew ?_ | refine below_drewN ?_ _ | refine Below.alloc ?_ (by omega) _ | refine Below.alloc ?_ (by simp; omega) _ | refine Below.alloc ?_ (by simp) _ | refine Below.setCell ?_ (by omega) _ | refine Below.setCell ?_ (by simp; omega) _ | refine Below.setCell ?_ (by simp) _))⟩
theorem info_toListedS : (Try.prog.info? 30).map (fun i => (i.zero, i.size, i.bytes)) = some (some (.agg #[.int .i64 0, .int .i64 0]), 2, 16) := by kernel_rfl
set_option maxHeartbeats 400000 in
theorem toListedS_c (v : Value) (ps : List P2) (w : World) (h : Rd 2 w v ps.length (enc2 ps)) (hn : ps.length ≤ 1048576) :
    Calls Try.prog 14 #[v] w (RetOwn 30 2 ps.length (enc2 ps) w) := by
  obtain ⟨-, a1, c1, rfl, h1, m1, k1⟩ := h
  unfold maxLen at m1
  obtain ⟨i0, hi, hz0, hz1, hz2⟩ := info_parts info_toListedS
  go_enter Try.func14, Try.ntmps14
  go_wp2_with (at_make; refine wpList_make_full _ rfl _ _ 23 rfl w.heap.size 30 i0 (.agg #[.int .i64 0, .int .i64 0]) 2 Try.underlying23 hi hz0 hz1 .i64 .i64 _ _ ps.length rfl rfl rfl rfl ?c1 ?c2 ?c3 ?_)
  case c1 => rw [hz2]; omega
  case c2 => unfold maxLen; omega
  case c3 => simp
  intro w1 hown hgrow
  have hb1 := grown_below hgrow (Nat.le_refl _) (fun k hk => by cases hk)
  clear hz0 hz1 hz2 hi
  go_wp2
  go_loopw [4] (fun i wr => ∃ k : Nat, k ≤ ps.length ∧ i = .int .i64 k ∧ Below w.heap.size w wr ∧ ∃ xs : List Value, xs.take (k * 2) = enc2 (ps.take k) ∧ wr.ownsRow w.heap.size 30 2 (.slice (some ⟨w.heap.size, 0, none⟩) ps.length ps.length) ps.length xs) (fun i _ => ps.length - (intOf i).toNat)
  case atStart => exact ⟨0, Nat.zero_le _, rfl, hb1, _, rfl, hown⟩
  case round =>
    clear hown hb1 hgrow w1
    obtain ⟨k, hk, rfl, hb, xs, hxs, hown⟩ := hrel
    have hsz := hb.size
    by_cases hlt : k < ps.length
    · obtain ⟨b1, o1, rfl, g1⟩ := k1 (by omega)
      obtain ⟨x, y, e1, u1, u2⟩ := at2 hb g1 k hlt
      have hs := take_snoc_getD ps k (0, 0) hlt
      rw [e1] at hs
      have HX := Lib.hid (And.intro hxs hs)
      clear e1 k1 g1 hxs hs
      go_wp2_with fail
      refine (toListed_c _ _ _).mono ?_
      rintro e w2 ⟨rfl, hb2⟩
      have hown2 := own_below hown hb2
      have hl : xs.length = ps.length * 2 := hown.1
      have c1 := hown2.cellAt (k * 2) (by omega)
      have c2 := hown2.cellAt (k * 2 + 1) (by omega)
      have f1 := hown2.frozenAt (k * 2)
      have f2 := hown2.frozenAt (k * 2 + 1)
      rw [List.getElem?_eq_getElem (by omega)] at c1 c2
      obtain ⟨z1, hz1⟩ : ∃ z, xs[k * 2]'(by omega) = z := ⟨_, rfl⟩
      obtain ⟨z2, hz2⟩ : ∃ z, xs[k * 2 + 1]'(by omega) = z := ⟨_, rfl⟩
      rw [hz1] at c1
      rw [hz2] at c2
      have HL := Lib.hid hl
      clear hz1 hz2 hl
      have hsz2 := hb2.size
      go_wp2
      go_roundw
      case rel =>
        have s1 := hown2.stored (k * 2) (.int .i64 x)
        have s2 := s1.1.stored (k * 2 + 1) (.int .i64 y)
        exact ⟨k + 1, by omega, by go_num, ((hb.trans (hb2.mono hsz)).setCell (Nat.le_refl _) _).setCell (Nat.le_refl _) _, _, by
          rw [HX.out.2, enc2_snoc]; exact take_step2 xs _ k _ _ (by rw [HL.out]; omega) HX.out.1, s2.1⟩
      case measure => simp [intOf]; omega
    · obtain rfl : k = ps.length := by omega
      have HX := Lib.hid hxs
      clear hxs
      go_wp2
      go_ret
      refine ⟨_, rfl, ?_, hb⟩
      have e2 := HX.out
      rw [List.take_of_length_le (by rw [hown.1]; exact Nat.le_refl _), List.take_of_length_le (Nat.le_refl _)] at e2
      rw [← e2]
      exact hown
set_option maxHeartbeats 400000 in
theorem markListedS_c (v : Value) (n : Nat) (flat : List Value) (base : Nat) (m : Int) (w : World) (h : w.ownsRow base 30 2 v n flat) (hn : n ≤ 4294967296) (hm0 : 0 ≤ m) (hm1 : m ≤ 4294967296) :
    Calls Try.prog 16 #[v, .int .i64 m] w fun e w' => e = .returned (.int .i64 (m + 2 * n)) ∧ w'.ownsRow base 30 2 v n (enc2 (marks2 m n)) ∧ w.grownBy w' v.ownBlock := by
  rcases own_cases h with ⟨rfl, rfl, rfl⟩ | ⟨g, cap, rfl, hg, hgs, hc, hcm⟩
  · go_enter Try.func16, Try.ntmps16
    go_wp2
    refine wp_loop_once ?_
    go_wp2
    go_ret
    exact ⟨by simp, h, World.grownBy.refl _ _⟩
  · unfold maxLen at hcm
    go_enter Try.func16, Try.ntmps16
    go_wp2
    go_loopw [5, 1] (fun i q wr => ∃ k : Nat, k ≤ n ∧ i = .int .i64 k ∧ q = .int .i64 (m + 2 * k) ∧ w.grownBy wr (some g) ∧ ∃ xs : List Value, xs.take (k * 2) = enc2 (marks2 m k) ∧ wr.ownsRow base 30 2 (.slice (some ⟨g, 0, none⟩) n cap) n xs) (fun i _ _ => n - (intOf i).toNat)
    case atStart => exact ⟨0, Nat.zero_le _, rfl, by simp, World.grownBy.refl _ _, flat, by simp [marks2, enc2], h⟩
    case round =>
      clear h
      obtain ⟨k, hk, rfl, rfl, hgr, xs, hxs, hown⟩ := hrel
      have HX := Lib.hid hxs
      clear hxs
      by_cases hlt : k < n
      · have hl : xs.length = n * 2 := hown.1
        have c0 := hown.cellAt (k * 2) (by omega)
        have f0 := hown.frozenAt (k * 2)
        have c1 := hown.cellAt (k * 2 + 1) (by omega)
        have f1 := hown.frozenAt (k * 2 + 1)
        obtain ⟨z0, hz0⟩ : ∃ z, xs[k * 2]'(by omega) = z := ⟨_, rfl⟩
        rw [List.getElem?_eq_getElem (by omega), hz0] at c0
        obtain ⟨z1, hz1⟩ : ∃ z, xs[k * 2 + 1]'(by omega) = z := ⟨_, rfl⟩
        rw [List.getElem?_eq_getElem (by omega), hz1] at c1
        have HL := Lib.hid hl
        clear hz0 hz1 hl
        go_wp2
        go_roundw
        case rel =>
          have s1 := hown.stored (k * 2) (.int .i64 (m + 2 * k))
          have s2 := s1.1.stored (k * 2 + 1) (.int .i64 (m + 2 * k + 1))
          exact ⟨k + 1, by omega, by go_num, congrArg _ (by omega), grown_set (grown_set hgr), _, by
            rw [marks2, enc2_snoc]; exact take_step2 xs _ k _ _ (by rw [HL.out]; omega) HX.out, s2.1⟩
        case measure => simp [intOf]; omega
      · obtain rfl : k = n := by omega
        go_wp2
        go_ret
        refine ⟨rfl, ?_, hgr⟩
        have e2 := HX.out
        rw [List.take_of_length_le (by rw [hown.1]; omega)] at e2
        rw [← e2]
        exact hown
set_option maxHeartbeats 400000 in
theorem heldListedS_c (v : Value) (n : Nat) (m : Int) (w : World) (h : Rd 2 w v n (enc2 (marks2 m n))) (hn : n ≤ 4294967296) (hm0 : 0 ≤ m) (hm1 : m ≤ 4294967296) :
    Calls Try.prog 17 #[v, .int .i64 m] w fun e w' => e = .returned (.int .i64 (m + 2 * n)) ∧ w = w' := by
  obtain ⟨-, a1, c1, rfl, h1, m1, k1⟩ := h
  unfold maxLen at m1
  go_enter Try.func17, Try.ntmps17
  go_wp2
  go_loop [5, 1] (fun i q => ∃ k : Nat, k ≤ n ∧ i = .int .i64 k ∧ q = .int .i64 (m + 2 * k)) (fun i _ => n - (intOf i).toNat)
  case atStart => exact ⟨0, Nat.zero_le _, rfl, by simp⟩
  case round =>
    obtain ⟨k, hk, rfl, rfl⟩ := hrel
    by_cases hlt : k < n
    · obtain ⟨b1, o1, rfl, g1⟩ := k1 (by omega)
      obtain ⟨x, y, e1, u1, u2⟩ := at2 (Below.refl _ _) g1 k (by rw [marks2_len]; exact hlt)
      rw [marks2_at _ _ _ _ hlt] at e1
      obtain ⟨rfl, rfl⟩ := Prod.mk.inj e1
      clear k1 g1 e1
      go_wp2
      go_round
      case rel => exact ⟨k + 1, by omega, by go_num, congrArg _ (by omega)⟩
      case measure => simp [intOf]; omega
    · obtain rfl : k = n := by omega
      clear k1
      go_wp2
      go_ret
      exact ⟨rfl, rfl⟩
end Go.Proofs.Ytonahamnkbjipaa
