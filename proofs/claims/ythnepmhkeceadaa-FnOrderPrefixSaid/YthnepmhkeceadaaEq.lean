/- Contracts: two slices that hold the same are found equal. No condition. -/
import Derived.Test.YthnepmhkeceadaaProg
import Derived.Test.YthnepmhkeceadaaBase
import Derived.Deep.QuietTactic
import Derived.BigQuiet
import Derived.StillTailTactics
import Derived.Outline
import Derived.Laws.StructEq
namespace Go.Proofs.Ythnepmhkeceadaa
open Go.RowKit
set_option maxRecDepth 100000 in
set_option maxHeartbeats 800000 in
theorem eqIntS_c (va vb : Value) (xs : List Int) (w : World) (ha : Rd 1 w va xs.length (enc1 xs)) (hb : Rd 1 w vb xs.length (enc1 xs)) :
    Calls Try.prog 21 #[va, vb] w fun e w' => e = .returned (.bool true) ∧ Below w.heap.size w w' := by
  obtain ⟨-, a1, c1, rfl, h1, m1, k1⟩ := ha
  obtain ⟨-, a2, c2, rfl, h2, m2, k2⟩ := hb
  unfold maxLen at m1 m2
  go_enter Try.func21, Try.ntmps21
  go_wp2
  go_loopw [5] (fun i wr => ∃ k : Nat, k ≤ xs.length ∧ i = .int .i64 k ∧ Below w.heap.size w wr) (fun i _ => xs.length - (intOf i).toNat)
  case atStart => exact ⟨0, Nat.zero_le _, rfl, Below.refl _ _⟩
  case round =>
    obtain ⟨k, hk, rfl, hb⟩ := hrel
    have hsz := hb.size
    by_cases hlt : k < xs.length
    · obtain ⟨b1, o1, rfl, g1⟩ := k1 (by omega)
      obtain ⟨b2, o2, rfl, g2⟩ := k2 (by omega)
      obtain ⟨x, e1, u1⟩ := at1 hb g1 k hlt
      obtain ⟨x', e2, u2⟩ := at1 hb g2 k hlt
      obtain rfl := e1.symm.trans e2
      clear e1 e2 k1 k2 g1 g2
      go_wp2
      go_quiet (fail)
      go_wp2
      go_roundw
      case rel => exact ⟨k + 1, by omega, by go_num, below_drewN hb _⟩
      case measure => simp [intOf]; omega
    · go_wp2
      go_ret
      exact ⟨rfl, hb⟩
set_option maxRecDepth 100000 in
set_option maxHeartbeats 800000 in
theorem sameInts_c (va vb : Value) (xs : List Int) (w : World) (ha : Rd 1 w va xs.length (enc1 xs)) (hb : Rd 1 w vb xs.length (enc1 xs)) :
    Calls Try.prog 43 #[va, vb] w fun e w' => e = .returned (.bool true) ∧ Below w.heap.size w w' := by
  obtain ⟨-, a1, c1, rfl, h1, m1, k1⟩ := ha
  obtain ⟨-, a2, c2, rfl, h2, m2, k2⟩ := hb
  unfold maxLen at m1 m2
  go_enter Try.func43, Try.ntmps43
  go_wp2
  go_loopw [5] (fun i wr => ∃ k : Nat, k ≤ xs.length ∧ i = .int .i64 k ∧ Below w.heap.size w wr) (fun i _ => xs.length - (intOf i).toNat)
  case atStart => exact ⟨0, Nat.zero_le _, rfl, Below.refl _ _⟩
  case round =>
    obtain ⟨k, hk, rfl, hb⟩ := hrel
    have hsz := hb.size
    by_cases hlt : k < xs.length
    · obtain ⟨b1, o1, rfl, g1⟩ := k1 (by omega)
      obtain ⟨b2, o2, rfl, g2⟩ := k2 (by omega)
      obtain ⟨x, e1, u1⟩ := at1 hb g1 k hlt
      obtain ⟨x', e2, u2⟩ := at1 hb g2 k hlt
      obtain rfl := e1.symm.trans e2
      clear e1 e2 k1 k2 g1 g2
      go_wp2
      go_quiet (fail)
      go_wp2
      go_roundw
      case rel => exact ⟨k + 1, by omega, by go_num, below_drewN hb _⟩
      case measure => simp [intOf]; omega
    · go_wp2
      go_ret
      exact ⟨rfl, hb⟩
set_option maxRecDepth 100000 in
set_option maxHeartbeats 800000 in
theorem sameRefs_c (va vb : Value) (xs : List P2) (w : World) (ha : Rd 2 w va xs.length (enc2 xs)) (hb : Rd 2 w vb xs.length (enc2 xs)) :
    Calls Try.prog 27 #[va, vb] w fun e w' => e = .returned (.bool true) ∧ Below w.heap.size w w' := by
  obtain ⟨-, a1, c1, rfl, h1, m1, k1⟩ := ha
  obtain ⟨-, a2, c2, rfl, h2, m2, k2⟩ := hb
  unfold maxLen at m1 m2
  go_enter Try.func27, Try.ntmps27
  go_wp2
  go_loopw [5] (fun i wr => ∃ k : Nat, k ≤ xs.length ∧ i = .int .i64 k ∧ Below w.heap.size w wr) (fun i _ => xs.length - (intOf i).toNat)
  case atStart => exact ⟨0, Nat.zero_le _, rfl, Below.refl _ _⟩
  case round =>
    obtain ⟨k, hk, rfl, hb⟩ := hrel
    have hsz := hb.size
    by_cases hlt : k < xs.length
    · obtain ⟨b1, o1, rfl, g1⟩ := k1 (by omega)
      obtain ⟨b2, o2, rfl, g2⟩ := k2 (by omega)
      obtain ⟨x, y, e1, u1, u2⟩ := at2 hb g1 k hlt
      obtain ⟨x', y', e2, u3, u4⟩ := at2 hb g2 k hlt
      obtain ⟨rfl, rfl⟩ := Prod.mk.inj (e1.symm.trans e2)
      clear e1 e2 k1 k2 g1 g2
      go_wp2
      go_quiet (fail)
      go_wp2
      go_roundw
      case rel => exact ⟨k + 1, by omega, by go_num, below_drewN hb _⟩
      case measure => simp [intOf]; omega
    · go_wp2
      go_ret
      exact ⟨rfl, hb⟩
end Go.Proofs.Ythnepmhkeceadaa
