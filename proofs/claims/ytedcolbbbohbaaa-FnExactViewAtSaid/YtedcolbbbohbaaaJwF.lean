/- Walks: whether places exist, and JoinSees. -/
import Derived.Test.YtedcolbbbohbaaaJwE
namespace Go.Proofs.Ytedcolbbbohbaaa
open Go.RowKit
def RefIn (F : Fd) (x y : Int) : Prop := 0 ≤ x ∧ x ≤ 2 ∧ 0 ≤ y ∧ y < (ln F x.toNat : Int)
open Classical in
noncomputable def riB (F : Fd) (x y : Int) : Bool := decide (RefIn F x y)
theorem riB_t {F : Fd} {x y : Int} (h : RefIn F x y) : riB F x y = true := by unfold riB; simp [h]
theorem riB_f {F : Fd} {x y : Int} (h : ¬ RefIn F x y) : riB F x y = false := by unfold riB; simp [h]
def JS (F : Fd) (aw ai bw bi : Int) : Prop := JV F ∧ RefIn F aw ai ∧ RefIn F bw bi ∧ ¬ (aw = bw ∧ ai = bi) ∧ bi < ck F aw.toNat ai.toNat bw.toNat
open Classical in
noncomputable def jsB (F : Fd) (aw ai bw bi : Int) : Bool := decide (JS F aw ai bw bi)
theorem jsB_t {F : Fd} {aw ai bw bi : Int} (h : JS F aw ai bw bi) : jsB F aw ai bw bi = true := by unfold jsB; simp [h]
theorem jsB_f {F : Fd} {aw ai bw bi : Int} (h : ¬ JS F aw ai bw bi) : jsB F aw ai bw bi = false := by unfold jsB; simp [h]
theorem jsB_in {F : Fd} {w i v k : Nat} (h : JV F) (h1 : RefIn F w i) (h2 : RefIn F v k) : jsB F w i v k = seesB F w i v k := by
  by_cases hs : ¬ (w = v ∧ i = k) ∧ (k : Int) < ck F w i v
  · rw [seesB_t hs.1 hs.2, jsB_t ⟨h, h1, h2, fun e => hs.1 (by omega), by simpa using hs.2⟩]
  · have e1 : seesB F w i v k = false := seesB_f (by
      by_cases e : w = v ∧ i = k
      · exact .inl e
      · exact .inr (Int.not_lt.1 fun h => hs ⟨e, h⟩))
    rw [e1, jsB_f fun hh => hs ⟨fun e => hh.2.2.2.1 (by omega), by simpa using hh.2.2.2.2⟩]
end Go.Proofs.Ytedcolbbbohbaaa
