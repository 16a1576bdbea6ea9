/- Contracts of the draws of entries for the laws. -/
import Derived.Test.YthnepmhkeceadaaJwO
namespace Go.Proofs.Ythnepmhkeceadaa
open Go.RowKit
attribute [local go_sem ↓] Go.wp_at_zero Go.wp_at_succ
/-- some entries, to be read -/
def DrF (w : World) (e : Ending) (w' : World) : Prop := ∃ v F, e = .returned v ∧ RdF All w' v F ∧ Below w.heap.size w w'
theorem drawJoinValid_c (v : Value) (n : Nat) (w : World) (h : RdB w v n) : Calls Try.prog 56 #[v] w (DrF w) := by
  go_enter Try.func56, Try.ntmps56
  go_wp2_with fail
  refine (l6Open_c _ n _ h).mono ?_
  rintro e w1 ⟨r, rfl, hr, hR, hb1⟩
  clear h
  go_wp2_with fail
  refine (l92Join_c _ r 0 _ hR (by omega)).mono ?_
  rintro e w2 ⟨v2, F2, rfl, hj, hF2, hR2, hg2⟩
  have hb2 := below_r hb1 hg2 hr
  clear hR hg2
  go_wp2_with fail
  refine (l92Bent_c _ r _ F2 _ _ hR2 (by omega) hF2 hj).mono ?_
  rintro e w3 ⟨v3, F3, rfl, hF3, -, -, -, -, hg3⟩
  have hb3 := below_r hb2 hg3 hr
  clear hg3 hb2 hR2 hF2
  go_wp2
  go_ret
  exact ⟨_, F3, rfl, hF3.all, hb3⟩
theorem drawJoinOrder_c (v : Value) (n : Nat) (w : World) (h : RdB w v n) : Calls Try.prog 28 #[v] w (DrF w) := by
  go_enter Try.func28, Try.ntmps28
  go_wp2_with fail
  refine (drawJoinValid_c _ n _ h).mono ?_
  rintro e w1 ⟨v1, F, rfl, hF, hb1⟩
  go_wp2
  go_ret
  exact ⟨_, F, rfl, hF, hb1⟩
/-- the place of an entry, or the one behind -/
def RefPost (B r P : Nat) (w : World) (e : Ending) (w' : World) : Prop :=
  ∃ x y : Int, e = .returned (.agg #[.int .i64 x, .int .i64 y]) ∧ (0 ≤ x ∧ x ≤ 2) ∧ (0 ≤ y ∧ y ≤ 9) ∧ Reader B w' r P ∧ w.grownBy w' (some r)
theorem reader_new_set {B : Nat} {w : World} {r P x j : Nat} {u : Value} (h : Reader B w r P) (hx : B ≤ x) : Reader B (w.setCell ⟨x, j, none⟩ u) r P :=
  h.kept (grown_set (g := x) (World.grownBy.refl _ _)) (fun k hk => by cases hk; exact hx)
theorem grown_new_set {W w : World} {r x j : Nat} {u : Value} (h : W.grownBy w (some r)) (hx : W.heap.size ≤ x) : W.grownBy (w.setCell ⟨x, j, none⟩ u) (some r) :=
  ⟨h.os, h.tape, h.output, by simpa using h.size, fun k hk hne => by rw [heap_setCell_other w ⟨x, j, none⟩ k u (by simp; omega)]; exact h.block k hk hne⟩
theorem grown_new {W w : World} {r : Nat} (h : W.grownBy w (some r)) (o : Obj) : W.grownBy (w.alloc o) (some r) := grown_b h ((Below.refl _ _).alloc (Nat.le_refl _) _)
def DrFRR (w : World) (e : Ending) (w' : World) : Prop :=
  ∃ (v : Value) (F : Fd) (a0 a1 b0 b1 : Int), e = .returned (.tuple #[v, .agg #[.int .i64 a0, .int .i64 a1], .agg #[.int .i64 b0, .int .i64 b1]]) ∧ RdF All w' v F ∧ (0 ≤ a0 ∧ a0 ≤ 2 ∧ 0 ≤ a1 ∧ a1 ≤ 9) ∧ (0 ≤ b0 ∧ b0 ≤ 2 ∧ 0 ≤ b1 ∧ b1 ≤ 9) ∧ Below w.heap.size w w'
end Go.Proofs.Ythnepmhkeceadaa
