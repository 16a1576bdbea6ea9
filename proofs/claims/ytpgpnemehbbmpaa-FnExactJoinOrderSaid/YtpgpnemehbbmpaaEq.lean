/- Contracts: two slices that hold the same are found equal. No condition. -/
import Derived.Test.YtpgpnemehbbmpaaProg
import Derived.Test.YtpgpnemehbbmpaaBase
import Derived.Deep.QuietTactic
import Derived.BigQuiet
import Derived.StillTailTactics
import Derived.Outline
import Derived.Laws.StructEq
namespace Go.Proofs.Ytpgpnemehbbmpaa
open Go.RowKit
theorem eqRef_c (x y : Int) (w : World) : Calls Try.prog 60 #[.agg #[.int .i64 x, .int .i64 y], .agg #[.int .i64 x, .int .i64 y]] w fun e w' => e = .returned (.bool true) ∧ Below w.heap.size w w' := by
  go_enter Try.func60, Try.ntmps60
  go_wp2
  go_ret
  exact ⟨rfl, ((Below.refl _ _).alloc (by simp) _).alloc (by simp) _⟩
set_option maxRecDepth 100000 in
set_option maxHeartbeats 800000 in
theorem eqRefS_c (va vb : Value) (xs : List P2) (w : World) (ha : Rd 2 w va xs.length (enc2 xs)) (hb : Rd 2 w vb xs.length (enc2 xs)) :
    Calls Try.prog 35 #[va, vb] w fun e w' => e = .returned (.bool true) ∧ Below w.heap.size w w' := by
  obtain ⟨-, a1, c1, rfl, h1, m1, k1⟩ := ha
  obtain ⟨-, a2, c2, rfl, h2, m2, k2⟩ := hb
  unfold maxLen at m1 m2
  go_enter Try.func35, Try.ntmps35
  go_wp2
  go_loopw [5] (fun i wr => ∃ k : Nat, k ≤ xs.length ∧ i = .int .i64 k ∧ Below w.heap.size w wr) (fun i _ => xs.length - (intOf i).toNat)
  case atStart => exact ⟨0, Nat.zero_le _, rfl, Below.refl _ _⟩
  case round =>
    obtain ⟨k, hk, rfl, hb⟩ := hrel
    have hsz := hb.size
    by_cases hlt : k < xs.length
    · obtain ⟨b1, o1, rfl, g1⟩ := k1 (by omega)
      obtain ⟨b2, o2, rfl, g2⟩ := k2 (by omega)
      obtain ⟨x, y, e1, u1, u2⟩ := at2 hb g1 k hlt
      obtain ⟨x', y', e2, u3, u4⟩ := at2 hb g2 k hlt
      obtain ⟨rfl, rfl⟩ := Prod.mk.inj (e1.symm.trans e2)
      clear e1 e2 k1 k2 g1 g2
      go_wp2
      go_still_tail 8, (by kernel_rfl)
      go_wp2_with (go_at_call 60; refine (eqRef_c _ _ _).mono ?_; rintro e w1 ⟨rfl, hb1⟩)
      go_roundw
      case rel => exact ⟨k + 1, by omega, by go_num, (hb.drew).trans (hb1.mono (by simp; omega))⟩
      case measure => simp [intOf]; omega
    · go_wp2
      go_ret
      exact ⟨rfl, hb⟩
set_option maxRecDepth 100000 in
set_option maxHeartbeats 800000 in
theorem eqIntS_c (va vb : Value) (xs : List Int) (w : World) (ha : Rd 1 w va xs.length (enc1 xs)) (hb : Rd 1 w vb xs.length (enc1 xs)) :
    Calls Try.prog 73 #[va, vb] w fun e w' => e = .returned (.bool true) ∧ Below w.heap.size w w' := by
  obtain ⟨-, a1, c1, rfl, h1, m1, k1⟩ := ha
  obtain ⟨-, a2, c2, rfl, h2, m2, k2⟩ := hb
  unfold maxLen at m1 m2
  go_enter Try.func73, Try.ntmps73
  go_wp2
  go_loopw [5] (fun i wr => ∃ k : Nat, k ≤ xs.length ∧ i = .int .i64 k ∧ Below w.heap.size w wr) (fun i _ => xs.length - (intOf i).toNat)
  case atStart => exact ⟨0, Nat.zero_le _, rfl, Below.refl _ _⟩
  case round =>
    obtain ⟨k, hk, rfl, hb⟩ := hrel
    have hsz := hb.size
    by_cases hlt : k < xs.length
    · obtain ⟨b1, o1, rfl, g1⟩ := k1 (by omega)
      obtain ⟨b2, o2, rfl, g2⟩ := k2 (by omega)
      obtain ⟨x, e1, u1⟩ := at1 hb g1 k hlt
      obtain ⟨x', e2, u2⟩ := at1 hb g2 k hlt
      obtain rfl := e1.symm.trans e2
      clear e1 e2 k1 k2 g1 g2
      go_wp2
      go_quiet (fail)
      go_wp2
      go_roundw
      case rel => exact ⟨k + 1, by omega, by go_num, below_drewN hb _⟩
      case measure => simp [intOf]; omega
    · go_wp2
      go_ret
      exact ⟨rfl, hb⟩
set_option maxRecDepth 100000 in
set_option maxHeartbeats 800000 in
theorem sameRefs_c (va vb : Value) (xs : List P2) (w : World) (ha : Rd 2 w va xs.length (enc2 xs)) (hb : Rd 2 w vb xs.length (enc2 xs)) :
    Calls Try.prog 30 #[va, vb] w fun e w' => e = .returned (.bool true) ∧ Below w.heap.size w w' := by
  obtain ⟨-, a1, c1, rfl, h1, m1, k1⟩ := ha
  obtain ⟨-, a2, c2, rfl, h2, m2, k2⟩ := hb
  unfold maxLen at m1 m2
  go_enter Try.func30, Try.ntmps30
  go_wp2
  go_loopw [5] (fun i wr => ∃ k : Nat, k ≤ xs.length ∧ i = .int .i64 k ∧ Below w.heap.size w wr) (fun i _ => xs.length - (intOf i).toNat)
  case atStart => exact ⟨0, Nat.zero_le _, rfl, Below.refl _ _⟩
  case round =>
    obtain ⟨k, hk, rfl, hb⟩ := hrel
    have hsz := hb.size
    by_cases hlt : k < xs.length
    · obtain ⟨b1, o1, rfl, g1⟩ := k1 (by omega)
      obtain ⟨b2, o2, rfl, g2⟩ := k2 (by omega)
      obtain ⟨x, y, e1, u1, u2⟩ := at2 hb g1 k hlt
      obtain ⟨x', y', e2, u3, u4⟩ := at2 hb g2 k hlt
      obtain ⟨rfl, rfl⟩ := Prod.mk.inj (e1.symm.trans e2)
      clear e1 e2 k1 k2 g1 g2
      go_wp2
      go_quiet (fail)
      go_wp2
      go_roundw
      case rel => exact ⟨k + 1, by omega, by go_num, below_drewN hb _⟩
      case measure => simp [intOf]; omega
    · go_wp2
      go_ret
      exact ⟨rfl, hb⟩
end Go.Proofs.Ytpgpnemehbbmpaa
