/- The walk of the law FnExactViewGet. -/
import Derived.Test.YtgicdfpcegaooaaView
import Derived.Test.YtgicdfpcegaooaaMk
import Derived.Test.YtgicdfpcegaooaaEq
namespace Go.Proofs.Ytgicdfpcegaooaa
open Go.RowKit
set_option maxHeartbeats 800000 in
theorem lawFnExactViewGet_c (w : World) (v : Value) (xs : List P2) (h : Rd 2 w v xs.length (enc2 xs)) (key : Int) (_hk : -9223372036854775808 ≤ key ∧ key ≤ 9223372036854775807) :
    Calls Try.prog 6 #[v, .int .i64 key] w fun e w' => e = .returned (.bool true) ∧ Below w.heap.size w w' := by
  go_enter Try.func6, Try.ntmps6
  go_wp2_with fail
  refine (szPairS_c _ _ _ _ h).mono ?_
  rintro e w0 ⟨rfl, rfl⟩
  by_cases hn : xs.length ≤ 1048576
  · rw [if_pos hn]
    go_wp2_with fail
    refine (toPairS_c _ _ _ h hn).mono ?_
    rintro e w1 ⟨v1, rfl, hown1, hb1⟩
    have h1 := h.below hb1
    clear h
    go_wp2_with fail
    refine (specViewGet_c _ xs key _ (Rd.of_own hown1)).mono ?_
    rintro e w2 ⟨rfl, hb2⟩
    have h2 := h1.below hb2
    have hb2' := hb1.trans (hb2.mono hb1.size)
    clear h1 hown1 hb1 hb2
    go_wp2_with fail
    refine (toPairS_c _ _ _ h2 hn).mono ?_
    rintro e w3 ⟨v3, rfl, hown3, hb3⟩
    have h3 := h2.below hb3
    have hb3' := hb2'.trans (hb3.mono hb2'.size)
    clear h2 hb2' hb3
    go_wp2_with fail
    refine (viewGet_c _ xs key _ (Rd.of_own hown3)).mono ?_
    rintro e w4 ⟨rfl, hb4⟩
    have h4 := h3.below hb4
    have hown4 := own_below hown3 hb4
    have hb4' := hb3'.trans (hb4.mono hb3'.size)
    clear h3 hown3 hb3' hb4
    obtain ⟨x, f⟩ := vg key xs
    go_wp2_with fail
    refine (toPairS_c _ _ _ h4 hn).mono ?_
    rintro e w5 ⟨v5, rfl, hown5, hb5⟩
    have hown4' := own_below hown4 hb5
    have hb5' := hb4'.trans (hb5.mono hb4'.size)
    clear h4 hown4 hb4' hb5
    go_wp2_with fail
    refine (eqPairS_c _ _ xs _ (Rd.of_own hown4') (Rd.of_own hown5)).mono ?_
    rintro e w6 ⟨rfl, hb6⟩
    have hb6' := hb5'.trans (hb6.mono hb5'.size)
    go_wp2
    go_ret
    exact ⟨rfl, hb6'⟩
  · rw [if_neg hn]
    go_wp2
    go_ret
    exact ⟨rfl, Below.refl _ _⟩
end Go.Proofs.Ytgicdfpcegaooaa
