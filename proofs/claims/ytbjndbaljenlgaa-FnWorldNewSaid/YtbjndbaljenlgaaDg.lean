/- Contracts of the draws of secrets, digests, texts. -/
import Derived.Test.YtbjndbaljenlgaaFn
namespace Go.Proofs.Ytbjndbaljenlgaa
open Go.RowKit
/-- some number; the reader has gone on a little; nothing else has changed -/
def NumP (B r P k : Nat) (w : World) (e : Ending) (w' : World) : Prop := ∃ n : Int, e = .returned (.int .i64 n) ∧ -1 ≤ n ∧ n ≤ 1000 ∧ Reader B w' r (P + k) ∧ w.grownBy w' (some r)
theorem secret_c (B r P : Nat) (w : World) (h : Reader B w r P) (hP : P ≤ 4294967200) : Calls Try.prog 44 #[.pointer (some ⟨r, 0, none⟩)] w (NumP B r P 3 w) := by
  have hrB := h.1
  have hBw := h.2.1
  go_enter Try.func44, Try.ntmps44
  go_wp2_with fail
  refine (pick_c B r _ 20 _ h (by omega)).mono ?_
  rintro e w1 ⟨m, rfl, hm0, -, hR, hg⟩
  have hBw1 := Nat.le_trans hBw hg.size
  clear h
  by_cases hm : m = 0
  · subst hm
    have hRa := hR.kept (World.grownBy_alloc w1 (.cells #[.int .i64 0, .int .i64 996, .int .i64 997, .int .i64 (-1)] 3) none) (fun k hk => by cases hk)
    go_wp2_with fail
    refine (pick_c B r _ 4 _ hRa (by omega)).mono ?_
    rintro e w2 ⟨m, rfl, hm0, hm1, hR2, hg2⟩
    have hm1 := hm1 (by omega)
    have hne : (some w1.heap.size : Option Nat) ≠ some r := by simp; omega
    have q0 : w2.cell? ⟨w1.heap.size, 0, none⟩ = some (.int .i64 0) := grown_cell hg2 (cell_new rfl rfl) hne
    have q1 : w2.cell? ⟨w1.heap.size, 1, none⟩ = some (.int .i64 996) := grown_cell hg2 (cell_new rfl rfl) hne
    have q2 : w2.cell? ⟨w1.heap.size, 2, none⟩ = some (.int .i64 997) := grown_cell hg2 (cell_new rfl rfl) hne
    have q3 : w2.cell? ⟨w1.heap.size, 3, none⟩ = some (.int .i64 (-1)) := grown_cell hg2 (cell_new rfl rfl) hne
    have HG := Lib.hid (grown_trans hg (grown_of_alloc hg2))
    clear hg hg2 hR hRa hne
    have h4 : m = 0 ∨ m = 1 ∨ m = 2 ∨ m = 3 := by omega
    rcases h4 with rfl | rfl | rfl | rfl
    all_goals
      go_wp2
      go_ret
      exact ⟨_, rfl, by omega, by omega, hR2.le (by omega), HG.out⟩
  · go_wp2_with fail
    refine (pick_c B r _ 99 _ hR (by omega)).mono ?_
    rintro e w2 ⟨a, rfl, ha0, ha1, hR2, hg2⟩
    have ha1 := ha1 (by omega)
    go_wp2_with fail
    refine (pick_c B r _ 10 _ hR2 (by omega)).mono ?_
    rintro e w3 ⟨b, rfl, hb0, hb1, hR3, hg3⟩
    have hb1 := hb1 (by omega)
    have HG := Lib.hid (grown_trans hg (grown_trans hg2 hg3))
    clear hg hg2 hg3 hR hR2
    go_wp2
    go_ret
    exact ⟨_, rfl, by omega, by omega, hR3.le (by omega), HG.out⟩
theorem ddigest_c (B r P : Nat) (w : World) (h : Reader B w r P) (hP : P ≤ 4294967200) : Calls Try.prog 119 #[.pointer (some ⟨r, 0, none⟩)] w (NumP B r P 3 w) := by
  have hrB := h.1
  have hBw := h.2.1
  go_enter Try.func119, Try.ntmps119
  go_wp2_with fail
  refine (pick_c B r _ 20 _ h (by omega)).mono ?_
  rintro e w1 ⟨m, rfl, hm0, -, hR, hg⟩
  have hBw1 := Nat.le_trans hBw hg.size
  clear h
  by_cases hm : m = 0
  · subst hm
    have hRa := hR.kept (World.grownBy_alloc w1 (.cells #[.int .i64 (-1), .int .i64 0, .int .i64 990, .int .i64 991] 3) none) (fun k hk => by cases hk)
    go_wp2_with fail
    refine (pick_c B r _ 4 _ hRa (by omega)).mono ?_
    rintro e w2 ⟨m, rfl, hm0, hm1, hR2, hg2⟩
    have hm1 := hm1 (by omega)
    have hne : (some w1.heap.size : Option Nat) ≠ some r := by simp; omega
    have q0 : w2.cell? ⟨w1.heap.size, 0, none⟩ = some (.int .i64 (-1)) := grown_cell hg2 (cell_new rfl rfl) hne
    have q1 : w2.cell? ⟨w1.heap.size, 1, none⟩ = some (.int .i64 0) := grown_cell hg2 (cell_new rfl rfl) hne
    have q2 : w2.cell? ⟨w1.heap.size, 2, none⟩ = some (.int .i64 990) := grown_cell hg2 (cell_new rfl rfl) hne
    have q3 : w2.cell? ⟨w1.heap.size, 3, none⟩ = some (.int .i64 991) := grown_cell hg2 (cell_new rfl rfl) hne
    have HG := Lib.hid (grown_trans hg (grown_of_alloc hg2))
    clear hg hg2 hR hRa hne
    have h4 : m = 0 ∨ m = 1 ∨ m = 2 ∨ m = 3 := by omega
    rcases h4 with rfl | rfl | rfl | rfl
    all_goals
      go_wp2
      go_ret
      exact ⟨_, rfl, by omega, by omega, hR2.le (by omega), HG.out⟩
  · go_wp2_with fail
    refine (pick_c B r _ 99 _ hR (by omega)).mono ?_
    rintro e w2 ⟨a, rfl, ha0, ha1, hR2, hg2⟩
    have ha1 := ha1 (by omega)
    go_wp2_with fail
    refine (pick_c B r _ 10 _ hR2 (by omega)).mono ?_
    rintro e w3 ⟨b, rfl, hb0, hb1, hR3, hg3⟩
    have hb1 := hb1 (by omega)
    have HG := Lib.hid (grown_trans hg (grown_trans hg2 hg3))
    clear hg hg2 hg3 hR hR2
    go_wp2
    go_ret
    exact ⟨_, rfl, by omega, by omega, hR3.le (by omega), HG.out⟩
theorem good_c (B r P : Nat) (w : World) (h : Reader B w r P) (hP : P ≤ 4294967200) : Calls Try.prog 83 #[.pointer (some ⟨r, 0, none⟩)] w (NumP B r P 2 w) := by
  go_enter Try.func83, Try.ntmps83
  go_wp2_with fail
  refine (pick_c B r _ 99 _ h (by omega)).mono ?_
  rintro e w2 ⟨a, rfl, ha0, ha1, hR2, hg2⟩
  have ha1 := ha1 (by omega)
  go_wp2_with fail
  refine (pick_c B r _ 6 _ hR2 (by omega)).mono ?_
  rintro e w3 ⟨b, rfl, hb0, hb1, hR3, hg3⟩
  have hb1 := hb1 (by omega)
  have HG := Lib.hid (grown_trans hg2 hg3)
  clear hg2 hg3 hR2
  go_wp2
  go_ret
  exact ⟨_, rfl, by omega, by omega, hR3.le (by omega), HG.out⟩
theorem drawFeedNew_c (v : Value) (n : Nat) (w : World) (h : RdB w v n) : Calls Try.prog 19 #[v] w fun e w' => ∃ m : Int, e = .returned (.int .i64 m) ∧ -1 ≤ m ∧ m ≤ 1000 ∧ Below w.heap.size w w' := by
  go_enter Try.func19, Try.ntmps19
  go_wp2_with fail
  refine (l6Open_c _ n _ h).mono ?_
  rintro e w1 ⟨r, rfl, hr, hR, hb1⟩
  clear h
  go_wp2_with fail
  refine (secret_c _ r _ _ hR (by omega)).mono ?_
  rintro e w2 ⟨m, rfl, h0, h1, -, hg⟩
  have HB := Lib.hid (below_r hb1 hg hr)
  clear hb1 hg hR
  go_wp2
  go_ret
  exact ⟨m, rfl, h0, h1, HB.out⟩
end Go.Proofs.Ytbjndbaljenlgaa
