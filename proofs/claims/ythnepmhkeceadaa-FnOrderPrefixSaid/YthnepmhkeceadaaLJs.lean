/- The walks of the laws on what an entry sees. -/
import Derived.Test.YthnepmhkeceadaaJwP
import Derived.Test.YthnepmhkeceadaaJwJ
namespace Go.Proofs.Ythnepmhkeceadaa
open Go.RowKit
attribute [local go_sem ↓] Go.wp_at_zero Go.wp_at_succ
theorem js_nat {F : Fd} {aw ai bw bi : Int} (h : JS F aw ai bw bi) : ∃ w i v k : Nat, aw = (w : Int) ∧ ai = (i : Int) ∧ bw = (v : Int) ∧ bi = (k : Int) ∧ w < 3 ∧ i < ln F w ∧ v < 3 ∧ k < ln F v ∧ ¬ (w = v ∧ i = k) ∧ (k : Int) < ck F w i v := by
  obtain ⟨-, ⟨a1, a2, a3, a4⟩, ⟨b1, b2, b3, b4⟩, hne, hlt⟩ := h
  obtain ⟨w, rfl⟩ := Int.eq_ofNat_of_zero_le a1
  obtain ⟨i, rfl⟩ := Int.eq_ofNat_of_zero_le a3
  obtain ⟨v, rfl⟩ := Int.eq_ofNat_of_zero_le b1
  obtain ⟨k, rfl⟩ := Int.eq_ofNat_of_zero_le b3
  simp only [Int.toNat_natCast] at a4 b4 hlt
  exact ⟨w, i, v, k, rfl, rfl, rfl, rfl, by omega, by omega, by omega, by omega, fun e => hne (by omega), hlt⟩
theorem js_mk {F : Fd} (h : JV F) {w i v k : Nat} (hw : w < 3) (hi : i < ln F w) (hv : v < 3) (hk : k < ln F v) (hne : ¬ (w = v ∧ i = k)) (hlt : (k : Int) < ck F w i v) : JS F w i v k :=
  ⟨h, ⟨by omega, by omega, by omega, by simpa using hi⟩, ⟨by omega, by omega, by omega, by simpa using hk⟩, fun e => hne (by omega), by simpa using hlt⟩
theorem js_back {F : Fd} {aw ai bw bi : Int} (h : JS F aw ai bw bi) : ¬ JS F bw bi aw ai := by
  intro h2
  have hj := h.1
  obtain ⟨w, i, v, k, rfl, rfl, rfl, rfl, hw, hi, hv, hk, hne, hlt⟩ := js_nat h
  have hlt2 := h2.2.2.2.2
  simp only [Int.toNat_natCast] at hlt2
  by_cases e : w = v
  · subst e
    rw [hj.own hw hi] at hlt
    rw [hj.own hw hk] at hlt2
    omega
  · have := hj.anti hw hi hv hlt (Ne.symm e)
    omega
theorem js_self {F : Fd} {aw ai : Int} : ¬ JS F aw ai aw ai := fun h => h.2.2.2.1 ⟨rfl, rfl⟩
theorem js_trans {F : Fd} {aw ai bw bi cw ci : Int} (h : JS F aw ai bw bi) (h2 : JS F bw bi cw ci) : JS F aw ai cw ci := by
  have hj := h.1
  refine ⟨hj, h.2.1, h2.2.2.1, fun e => ?_, ?_⟩
  · obtain ⟨rfl, rfl⟩ := e
    exact js_back h h2
  · obtain ⟨w, i, v, k, rfl, rfl, rfl, rfl, hw, hi, hv, hk, hne, hlt⟩ := js_nat h
    obtain ⟨v', k', x, l, e1, e2, rfl, rfl, -, -, hx, hl, -, hlt2⟩ := js_nat h2
    obtain rfl : v = v' := by omega
    obtain rfl : k = k' := by omega
    have := (hj.up hw hi hv hlt hx).2
    simp only [Int.toNat_natCast]
    omega
end Go.Proofs.Ythnepmhkeceadaa
