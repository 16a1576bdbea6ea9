/- Contracts: sizes, copies, marks and held marks of slices. -/
import Derived.Test.YthnepmhkeceadaaProg
import Derived.Test.YthnepmhkeceadaaBase
import Derived.Deep.QuietTactic
import Derived.BigQuiet
import Derived.StillTailTactics
import Derived.Outline
import Derived.Laws.StructEq
namespace Go.Proofs.Ythnepmhkeceadaa
open Go.RowKit
set_option maxHeartbeats 400000 in
theorem markIntS_c (v : Value) (n : Nat) (flat : List Value) (base : Nat) (m : Int) (w : World) (h : w.ownsRow base 3 1 v n flat) (hn : n ≤ 4294967296) (hm0 : 0 ≤ m) (hm1 : m ≤ 4294967296) :
    Calls Try.prog 23 #[v, .int .i64 m] w fun e w' => e = .returned (.int .i64 (m + 1 * n)) ∧ w'.ownsRow base 3 1 v n (enc1 (marks1 m n)) ∧ w.grownBy w' v.ownBlock := by
  rcases own_cases h with ⟨rfl, rfl, rfl⟩ | ⟨g, cap, rfl, hg, hgs, hc, hcm⟩
  · go_enter Try.func23, Try.ntmps23
    go_wp2
    refine wp_loop_once ?_
    go_wp2
    go_ret
    exact ⟨by simp, h, World.grownBy.refl _ _⟩
  · unfold maxLen at hcm
    go_enter Try.func23, Try.ntmps23
    go_wp2
    go_loopw [5, 1] (fun i q wr => ∃ k : Nat, k ≤ n ∧ i = .int .i64 k ∧ q = .int .i64 (m + 1 * k) ∧ w.grownBy wr (some g) ∧ ∃ xs : List Value, xs.take (k) = enc1 (marks1 m k) ∧ wr.ownsRow base 3 1 (.slice (some ⟨g, 0, none⟩) n cap) n xs) (fun i _ _ => n - (intOf i).toNat)
    case atStart => exact ⟨0, Nat.zero_le _, rfl, by simp, World.grownBy.refl _ _, flat, by simp [marks1, enc1], h⟩
    case round =>
      clear h
      obtain ⟨k, hk, rfl, rfl, hgr, xs, hxs, hown⟩ := hrel
      have HX := Lib.hid hxs
      clear hxs
      by_cases hlt : k < n
      · have hl : xs.length = n * 1 := hown.1
        have c0 := hown.cellAt (k) (by omega)
        have f0 := hown.frozenAt (k)
        obtain ⟨z0, hz0⟩ : ∃ z, xs[k]'(by omega) = z := ⟨_, rfl⟩
        rw [List.getElem?_eq_getElem (by omega), hz0] at c0
        have HL := Lib.hid hl
        clear hz0 hl
        go_wp2
        go_roundw
        case rel =>
          have s1 := hown.stored k (.int .i64 (m + k))
          exact ⟨k + 1, by omega, by go_num, congrArg _ (by omega), grown_set hgr, _, by
            rw [marks1, enc1_snoc]; exact take_step xs _ k _ (by rw [HL.out]; omega) HX.out, s1.1⟩
        case measure => simp [intOf]; omega
      · obtain rfl : k = n := by omega
        go_wp2
        go_ret
        refine ⟨rfl, ?_, hgr⟩
        have e2 := HX.out
        rw [List.take_of_length_le (by rw [hown.1]; omega)] at e2
        rw [← e2]
        exact hown
set_option maxHeartbeats 400000 in
theorem heldIntS_c (v : Value) (n : Nat) (m : Int) (w : World) (h : Rd 1 w v n (enc1 (marks1 m n))) (hn : n ≤ 4294967296) (hm0 : 0 ≤ m) (hm1 : m ≤ 4294967296) :
    Calls Try.prog 66 #[v, .int .i64 m] w fun e w' => e = .returned (.int .i64 (m + 1 * n)) ∧ w = w' := by
  obtain ⟨-, a1, c1, rfl, h1, m1, k1⟩ := h
  unfold maxLen at m1
  go_enter Try.func66, Try.ntmps66
  go_wp2
  go_loop [5, 1] (fun i q => ∃ k : Nat, k ≤ n ∧ i = .int .i64 k ∧ q = .int .i64 (m + 1 * k)) (fun i _ => n - (intOf i).toNat)
  case atStart => exact ⟨0, Nat.zero_le _, rfl, by simp⟩
  case round =>
    obtain ⟨k, hk, rfl, rfl⟩ := hrel
    by_cases hlt : k < n
    · obtain ⟨b1, o1, rfl, g1⟩ := k1 (by omega)
      obtain ⟨x, e1, u1⟩ := at1 (Below.refl _ _) g1 k (by rw [marks1_len]; exact hlt)
      rw [marks1_at _ _ _ _ hlt] at e1
      subst e1
      clear k1 g1
      go_wp2
      go_round
      case rel => exact ⟨k + 1, by omega, by go_num, congrArg _ (by omega)⟩
      case measure => simp [intOf]; omega
    · obtain rfl : k = n := by omega
      clear k1
      go_wp2
      go_ret
      exact ⟨rfl, rfl⟩
end Go.Proofs.Ythnepmhkeceadaa
